/- Opposite numbers; sums in either order. -/
import Derived.Test.YtonmdkhfongmhaaWstrong
namespace Go.Proofs.Ytonmdkhfongmhaa
open Go.RowKit

theorem fadd_comm (x y : F) : fadd x y = fadd y x := by
  cases x with
  | none => cases y <;> rfl
  | some a => cases y with
    | none => rfl
    | some b =>
      show ((Ieee.single.read a).sum (Ieee.single.read b)).map Ieee.single.write = ((Ieee.single.read b).sum (Ieee.single.read a)).map Ieee.single.write
      congr 1
      cases Ieee.single.read a with
      | nan => cases Ieee.single.read b <;> rfl
      | infinity s => cases Ieee.single.read b with
        | nan => rfl
        | infinity t => cases s <;> cases t <;> rfl
        | number => rfl
      | number s m i => cases Ieee.single.read b with
        | nan => rfl
        | infinity t => rfl
        | number t n j =>
          simp only [Ieee.Datum.sum]
          rw [Int.min_comm i j, Int.add_comm, Bool.and_comm]

theorem nearest_opp (s : Bool) (m : Nat) (p : Int) : ∃ r, r ≤ 2139095040 ∧ Ieee.single.nearest s m p = Ieee.single.word s r ∧ Ieee.single.nearest (!s) m p = Ieee.single.word (!s) r := by
  unfold Ieee.Format.nearest
  by_cases h0 : m = 0
  · rw [if_pos h0, if_pos h0]; exact ⟨0, by omega, rfl, rfl⟩
  · rw [if_neg h0, if_neg h0]
    refine ⟨_, Nat.min_le_right _ _, rfl, ?_⟩
    rfl
theorem read_word_opp (s : Bool) {r : Nat} (h : r ≤ 2139095040) : Ieee.single.read (Ieee.single.word (!s) r) = (Ieee.single.read (Ieee.single.word s r)).opposite := by
  have h1 := word_mod s (r := r) (by omega)
  have h2 := word_mod (!s) (r := r) (by omega)
  have hbn : Ieee.single.binade = 8388608 := rfl
  have hi : Ieee.single.infRung = 2139095040 := rfl
  have hs : Ieee.single.signWeight = 2147483648 := rfl
  unfold Ieee.Format.read
  simp only [hbn, hi, hs, h1.1, h1.2, h2.1, h2.2]
  split
  · rfl
  · split
    · rfl
    · split <;> rfl
theorem write_opp (d : Ieee.Datum) (h : d.isNaN = false) : Ieee.single.read (Ieee.single.write d.opposite) = (Ieee.single.read (Ieee.single.write d)).opposite := by
  cases d with
  | nan => cases h
  | infinity s => exact read_word_opp s (by decide)
  | number s m p =>
    obtain ⟨r, h1, h2, h3⟩ := nearest_opp s m p
    show Ieee.single.read (Ieee.single.nearest (!s) m p) = (Ieee.single.read (Ieee.single.nearest s m p)).opposite
    rw [h2, h3]; exact read_word_opp s h1
theorem product_opp (x y : Ieee.Datum) : x.opposite.product y = (x.product y).map Ieee.Datum.opposite := by
  cases x with
  | nan => rfl
  | infinity s => cases y with
    | nan => rfl
    | infinity t => cases s <;> cases t <;> rfl
    | number t n j =>
      simp only [Ieee.Datum.opposite, Ieee.Datum.product]
      by_cases h : n = 0
      · rw [if_pos h, if_pos h]; rfl
      · rw [if_neg h, if_neg h]; cases s <;> cases t <;> rfl
  | number s m i => cases y with
    | nan => rfl
    | infinity t =>
      simp only [Ieee.Datum.opposite, Ieee.Datum.product]
      by_cases h : m = 0
      · rw [if_pos h, if_pos h]; rfl
      · rw [if_neg h, if_neg h]; cases s <;> cases t <;> rfl
    | number t n j => cases s <;> cases t <;> rfl
theorem quotient_opp (k : Nat) (x y : Ieee.Datum) : x.opposite.quotient k y = (x.quotient k y).map Ieee.Datum.opposite := by
  cases x with
  | nan => rfl
  | infinity s => cases y with
    | nan => rfl
    | infinity t => rfl
    | number t n j => cases s <;> cases t <;> rfl
  | number s m i => cases y with
    | nan => rfl
    | infinity t => cases s <;> cases t <;> rfl
    | number t n j =>
      simp only [Ieee.Datum.opposite, Ieee.Datum.quotient]
      by_cases h : n = 0
      · rw [if_pos h, if_pos h]
        by_cases h2 : m = 0
        · rw [if_pos h2, if_pos h2]; rfl
        · rw [if_neg h2, if_neg h2]; cases s <;> cases t <;> rfl
      · rw [if_neg h, if_neg h]; cases s <;> cases t <;> rfl
theorem quotient_num' {k : Nat} {x y d : Ieee.Datum} (h : x.quotient k y = some d) : d.isNaN = false := by
  cases x with
  | nan => cases h
  | infinity s => cases y with
    | nan => cases h
    | infinity t => cases h
    | number t n j => cases h; rfl
  | number s m i => cases y with
    | nan => cases h
    | infinity t => cases h; rfl
    | number t n j =>
      simp only [Ieee.Datum.quotient] at h
      by_cases h0 : n = 0
      · rw [if_pos h0] at h
        by_cases h2 : m = 0
        · rw [if_pos h2] at h; cases h
        · rw [if_neg h2] at h; cases h; rfl
      · rw [if_neg h0] at h; cases h; rfl

/-- The one number is the other with its sign turned. -/
def Opp (x y : F) : Prop := ∀ a, x = some a → ∃ b, y = some b ∧ Ieee.single.read b = (Ieee.single.read a).opposite
theorem Opp.mul {x y : F} (h : Opp x y) (z : F) : Opp (fmul x z) (fmul y z) := by
  intro c hc
  cases x with
  | none => cases hc
  | some p => cases z with
    | none => cases hc
    | some q =>
      obtain ⟨p', rfl, hp⟩ := h p rfl
      have h' : ((Ieee.single.read p).product (Ieee.single.read q)).map Ieee.single.write = some c := hc
      cases hd : (Ieee.single.read p).product (Ieee.single.read q) with
      | none => rw [hd] at h'; cases h'
      | some d =>
        rw [hd] at h'; cases h'
        refine ⟨Ieee.single.write d.opposite, ?_, write_opp d (product_num hd)⟩
        show ((Ieee.single.read p').product (Ieee.single.read q)).map Ieee.single.write = _
        rw [hp, product_opp, hd]; rfl
theorem Opp.div {x y : F} (h : Opp x y) (z : F) : Opp (fdiv x z) (fdiv y z) := by
  intro c hc
  cases x with
  | none => cases hc
  | some p => cases z with
    | none => cases hc
    | some q =>
      obtain ⟨p', rfl, hp⟩ := h p rfl
      have h' : ((Ieee.single.read p).quotient (Ieee.single.fractionBits + 2) (Ieee.single.read q)).map Ieee.single.write = some c := hc
      cases hd : (Ieee.single.read p).quotient (Ieee.single.fractionBits + 2) (Ieee.single.read q) with
      | none => rw [hd] at h'; cases h'
      | some d =>
        rw [hd] at h'; cases h'
        refine ⟨Ieee.single.write d.opposite, ?_, write_opp d (quotient_num' hd)⟩
        show ((Ieee.single.read p').quotient (Ieee.single.fractionBits + 2) (Ieee.single.read q)).map Ieee.single.write = _
        rw [hp, quotient_opp, hd]; rfl
theorem opp_neg {r : Nat} (h : r < 4294967296) (hn : fb r = some r) : Opp (fb r) (fb (Op.negFloat .f32 r)) ∧ fb (Op.negFloat .f32 r) = some (Op.negFloat .f32 r) := by
  have key : Ieee.single.read (Op.negFloat .f32 r) = (Ieee.single.read r).opposite := by
    have e : Op.negFloat .f32 r = r ^^^ 2 ^ 31 := rfl
    rcases Nat.lt_or_ge r 2147483648 with hl | hl
    · have e2 : r ^^^ 2 ^ 31 = Ieee.single.word true r := by
        show r ^^^ 2 ^ 31 = 2 ^ 31 + r
        apply Nat.eq_of_testBit_eq
        intro i
        rw [Nat.testBit_xor, Nat.testBit_two_pow]
        by_cases e : 31 = i
        · subst e
          rw [Nat.testBit_two_pow_add_eq]; simp
        · rcases Nat.lt_or_ge i 31 with h3 | h3
          · rw [Nat.testBit_two_pow_add_gt h3]; simp [e]
          · have h4 : 32 ≤ i := by omega
            rw [Nat.testBit_lt_two_pow (x := r) (Nat.lt_of_lt_of_le (show r < 2 ^ 31 from hl) (Nat.pow_le_pow_right (show 0 < 2 by decide) (by omega))), Nat.testBit_lt_two_pow (x := 2 ^ 31 + r) (Nat.lt_of_lt_of_le (show 2 ^ 31 + r < 2 ^ 32 by omega) (Nat.pow_le_pow_right (show 0 < 2 by decide) h4))]
            simp [e]
      have e3 : r = Ieee.single.word false r := rfl
      rw [e, e2]
      rcases Nat.lt_or_ge 2139095040 r with h5 | h5
      · exfalso
        unfold fb fbOf at hn
        have hnan : (Ieee.single.read r).isNaN = true := by
          have hbn : Ieee.single.binade = 8388608 := rfl
          have hi : Ieee.single.infRung = 2139095040 := rfl
          have hs : Ieee.single.signWeight = 2147483648 := rfl
          unfold Ieee.Format.read
          simp only [hbn, hi, hs, Nat.mod_eq_of_lt hl]
          rw [if_neg (by omega), if_neg (by omega), if_neg (by omega)]; rfl
        rw [hnan] at hn; cases hn
      · exact read_word_opp false h5
    · have e2 := neg_bits hl h
      rw [e2]
      have e3 : r = Ieee.single.word true (r % 2147483648) := by
        show r = 2147483648 + r % 2147483648
        omega
      rcases Nat.lt_or_ge 2139095040 (r % 2147483648) with h5 | h5
      · exfalso
        unfold fb fbOf at hn
        have hnan : (Ieee.single.read r).isNaN = true := by
          have hbn : Ieee.single.binade = 8388608 := rfl
          have hi : Ieee.single.infRung = 2139095040 := rfl
          have hs : Ieee.single.signWeight = 2147483648 := rfl
          unfold Ieee.Format.read
          simp only [hbn, hi, hs]
          rw [if_neg (by omega), if_neg (by omega), if_neg (by omega)]; rfl
        rw [hnan] at hn; cases hn
      · have := read_word_opp true h5
        rw [← e3] at this
        exact this
  have hnn : (Ieee.single.read r).isNaN = false := by
    unfold fb fbOf at hn
    split at hn
    · cases hn
    · rename_i h; simpa using h
  have h2 : fb (Op.negFloat .f32 r) = some (Op.negFloat .f32 r) := by
    unfold fb fbOf
    rw [key]
    have : (Ieee.single.read r).opposite.isNaN = false := by
      cases hh : Ieee.single.read r with
      | nan => rw [hh] at hnn; cases hnn
      | infinity => rfl
      | number => rfl
    rw [this]; rfl
  refine ⟨fun a ha => ?_, h2⟩
  rw [hn] at ha; cases ha
  exact ⟨_, h2, key⟩
/-- A number and its opposite add up to 0. -/
theorem Opp.sum {x y : F} {k : Int} (h : Opp x y) (hx : Le x k) : fadd x y = some 0 := by
  obtain ⟨a, s, m, e, rfl, hr, _⟩ := hx
  obtain ⟨b, rfl, hb⟩ := h a rfl
  show ((Ieee.single.read a).sum (Ieee.single.read b)).map Ieee.single.write = _
  rw [hb, hr]
  simp only [Ieee.Datum.opposite, Ieee.Datum.sum]
  have h0 : Ieee.signed s m (e - min e e).toNat + Ieee.signed (!s) m (e - min e e).toNat = 0 := by
    cases s
    · show ((m <<< (e - min e e).toNat : Nat) : Int) + -((m <<< (e - min e e).toNat : Nat) : Int) = 0
      omega
    · show -((m <<< (e - min e e).toNat : Nat) : Int) + ((m <<< (e - min e e).toNat : Nat) : Int) = 0
      omega
  rw [h0, if_pos rfl]
  cases s <;> rfl
end Go.Proofs.Ytonmdkhfongmhaa
