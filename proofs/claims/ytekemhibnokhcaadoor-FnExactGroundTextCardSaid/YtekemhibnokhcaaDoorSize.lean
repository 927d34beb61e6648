/- The size of a number: by the program's way round through wide numbers and by the reference's subtraction. -/
import Derived.Test.YtekemhibnokhcaaDoorEq
namespace Go.Proofs.YtekemhibnokhcaaDoor
open Go.RowKit

theorem log2_shl (m j : Nat) (h : m ≠ 0) : (m <<< j).log2 = m.log2 + j := by
  have hp : 0 < 2 ^ j := Nat.two_pow_pos j
  rw [Nat.shiftLeft_eq]
  refine (Nat.log2_eq_iff (Nat.mul_ne_zero h (Nat.pos_iff_ne_zero.1 hp))).2 ⟨?_, ?_⟩
  · rw [Nat.pow_add]; exact Nat.mul_le_mul_right _ (Nat.log2_self_le h)
  · rw [show m.log2 + j + 1 = (m.log2 + 1) + j by omega, Nat.pow_add]; exact Nat.mul_lt_mul_of_pos_right Nat.lt_log2_self hp

theorem cut_exact (s : Bool) (m j : Nat) (h : m ≠ 0) : Ieee.Toward.even.cut s (m <<< j) j = m := by
  unfold Ieee.Toward.cut
  have hg : min j ((m <<< j).log2 + 2) = j := by rw [log2_shl m j h]; omega
  have hp : 0 < 2 ^ j := Nat.two_pow_pos j
  rw [hg]
  simp only [Nat.shiftLeft_eq, Nat.one_mul]
  rw [Nat.mul_div_cancel _ hp, Nat.mul_mod_left]
  have : (2 ^ j == 2 * 0) = false := by simp
  simp

/-- The data of the finite numbers. -/
theorem read_rung (b : Nat) (h : b % 2147483648 < 2139095040) :
    ∃ m e, Ieee.single.read b = .number (b / 2147483648 % 2 == 1) m e ∧ (e + 149).toNat * 8388608 + m = b % 2147483648 ∧ -149 ≤ e ∧ ((e = -149 ∧ m < 8388608) ∨ (8388608 ≤ m ∧ m < 16777216)) := by
  have hb : Ieee.single.binade = 8388608 := rfl
  have hi : Ieee.single.infRung = 2139095040 := rfl
  have hl : Ieee.single.leastPlace = -149 := rfl
  have hs : Ieee.single.signWeight = 2147483648 := rfl
  unfold Ieee.Format.read
  simp only [hb, hi, hl, hs]
  split
  · exact ⟨_, _, rfl, by omega, by omega, .inl ⟨rfl, by omega⟩⟩
  · exact ⟨_, _, rfl, by omega, by omega, .inr ⟨by omega, by omega⟩⟩

/-- A number of the format, in other digits, is written as it was. -/
theorem nearest_same (s : Bool) (m j r : Nat) (e : Int) (hr : (e + 149).toNat * 8388608 + m = r) (hr2 : r < 2139095040) (he : -149 ≤ e) (hm : (e = -149 ∧ m < 8388608) ∨ (8388608 ≤ m ∧ m < 16777216)) :
    Ieee.single.nearest s (m <<< j) (e - j) = Ieee.single.word s r := by
  have hf : Ieee.single.fractionBits = 23 := rfl
  have hb : Ieee.single.binade = 8388608 := rfl
  have hi : Ieee.single.infRung = 2139095040 := rfl
  have hl : Ieee.single.leastPlace = -149 := rfl
  unfold Ieee.Format.nearest
  by_cases h0 : m = 0
  · subst h0
    rw [Nat.zero_shiftLeft, if_pos rfl]
    congr 1; omega
  · have hne : m <<< j ≠ 0 := by rw [Nat.shiftLeft_eq]; exact Nat.mul_ne_zero h0 (Nat.pos_iff_ne_zero.1 (Nat.two_pow_pos j))
    rw [if_neg hne]
    simp only [hf, hb, hi, hl, log2_shl m j h0]
    have hlog : (e = -149 ∧ m.log2 ≤ 22) ∨ m.log2 = 23 := by
      rcases hm with ⟨h1, h2⟩ | ⟨h1, h2⟩
      · exact .inl ⟨h1, by have := (Nat.log2_lt h0 (k := 23)).2 (by omega); omega⟩
      · refine .inr ?_
        have h3 := (Nat.log2_lt h0 (k := 24)).2 (by omega)
        have h4 := (Nat.le_log2 h0 (k := 23)).2 (by omega)
        omega
    have e1 : max (e - (j : Int) + ((m.log2 + j : Nat) : Int) - ((23 : Nat) : Int)) (-149) = e := by omega
    rw [e1]
    have e2 : (e - (j : Int) - e).toNat = 0 := by omega
    have e3 : (e - (e - (j : Int))).toNat = j := by omega
    rw [e2, e3, Nat.shiftLeft_zero, cut_exact s m j h0]
    congr 1
    have : (e - -149).toNat = (e + 149).toNat := by congr 1
    rw [this, hr]
    omega

def fabs (x : F) : F := if fle x (some 0) then fsub (some 0) x else x
def Fits (x : F) : Prop := ∀ b, x = some b → b < 4294967296

theorem write_fits (d : Ieee.Datum) (h : d.isNaN = false) : Ieee.single.write d < 4294967296 := by
  have hs : Ieee.single.signWeight = 2147483648 := rfl
  have hi : Ieee.single.infRung = 2139095040 := rfl
  have key : ∀ s r, r ≤ Ieee.single.infRung → Ieee.single.word s r < 4294967296 := fun s r hr => by
    unfold Ieee.Format.word
    rw [hi] at hr
    split
    · rw [hs]; omega
    · omega
  cases d with
  | number s m e =>
    obtain ⟨r, hr, he⟩ := nearest_rung Ieee.single s m e
    show Ieee.single.nearest s m e < _
    rw [he]; exact key s r hr
  | infinity s => exact key s _ (Nat.le_refl _)
  | nan s t => cases h

theorem fsub_fits (x y : F) : Fits (fsub x y) := by
  intro b h
  cases x with
  | none => cases h
  | some p => cases y with
    | none => cases h
    | some q =>
      have h' : ((Ieee.single.read p).sum (Ieee.single.read q).opposite).map Ieee.single.write = some b := h
      cases hd : (Ieee.single.read p).sum (Ieee.single.read q).opposite with
      | none => rw [hd] at h'; cases h'
      | some d => rw [hd] at h'; cases h'; exact write_fits d (sum_num hd)

theorem read0 : Ieee.single.read 0 = .number false 0 (-149) := by decide

theorem order_zero {b : Nat} {s : Bool} {m : Nat} {e : Int} (hd : Ieee.single.read b = .number s m e) (he : -149 ≤ e) :
    fle (some b) (some 0) = (s || decide (m = 0)) := by
  have h : ford (some b) (some 0) = some (compare (Ieee.signed s m (e + 149).toNat) 0) := by
    show (Ieee.single.read b).order (Ieee.single.read 0) = _
    rw [hd, read0]
    simp only [Ieee.Datum.order]
    have e1 : min e (-149) = -149 := by omega
    rw [e1, show (-149 - -149 : Int) = 0 by omega, show e - -149 = e + 149 by omega]
    rfl
  have hM : m <<< (e + 149).toNat = 0 ↔ m = 0 := by
    rw [Nat.shiftLeft_eq, Nat.mul_eq_zero]
    have := Nat.two_pow_pos (e + 149).toNat
    constructor
    · rintro (h | h)
      · exact h
      · omega
    · exact .inl
  unfold fle flt feq
  rw [h]
  unfold Ieee.signed
  generalize m <<< (e + 149).toNat = M at hM
  cases s
  · by_cases h0 : m = 0
    · have : M = 0 := hM.2 h0
      subst this
      simp [h0]
    · have h1 : M ≠ 0 := fun h => h0 (hM.1 h)
      have : compare ((M : Nat) : Int) 0 = .gt := Int.compare_eq_gt.2 (by omega)
      simp [this, h0]
  · by_cases h0 : M = 0
    · subst h0; simp
    · have : compare (-((M : Nat) : Int)) 0 = .lt := Int.compare_eq_lt.2 (by omega)
      simp [this]

theorem fabs_num (b : Nat) (hb : b < 4294967296) (h : b % 2147483648 ≤ 2139095040) : fabs (some b) = some (b % 2147483648) := by
  have hi : Ieee.single.infRung = 2139095040 := rfl
  rcases Nat.lt_or_ge (b % 2147483648) 2139095040 with h' | h'
  · obtain ⟨m, e, hd, hr, he, hm⟩ := read_rung b h'
    unfold fabs
    rw [order_zero hd he]
    by_cases hz : (b / 2147483648 % 2 == 1) = true ∨ m = 0
    · have hc : ((b / 2147483648 % 2 == 1) || decide (m = 0)) = true := by simpa using hz
      rw [if_pos hc]
      show ((Ieee.single.read 0).sum (Ieee.single.read b).opposite).map Ieee.single.write = _
      rw [hd, read0]
      simp only [Ieee.Datum.opposite, Ieee.Datum.sum, Option.map_some, Option.some.injEq]
      have e1 : min (-149) e = -149 := by omega
      rw [e1, show (-149 - -149 : Int) = 0 by omega, show e - -149 = e + 149 by omega]
      have hs0 : Ieee.signed false 0 (Int.toNat 0) = 0 := by decide
      rw [hs0, Int.zero_add]
      have key : ∀ t : Bool, (t = false ∨ m = 0) → Ieee.single.nearest (if Ieee.signed t m (e + 149).toNat = 0 then false && t else decide (Ieee.signed t m (e + 149).toNat < 0)) (Ieee.signed t m (e + 149).toNat).natAbs (-149) = b % 2147483648 := fun t ht => by
        have hn : (Ieee.signed t m (e + 149).toNat).natAbs = m <<< (e + 149).toNat := by
          unfold Ieee.signed; generalize m <<< (e + 149).toNat = M; cases t <;> simp
        have hsg : (if Ieee.signed t m (e + 149).toNat = 0 then false && t else decide (Ieee.signed t m (e + 149).toNat < 0)) = false := by
          split
          · simp
          · rcases ht with rfl | rfl
            · unfold Ieee.signed; generalize m <<< (e + 149).toNat = M; simp
            · rename_i hne; exact absurd (by unfold Ieee.signed; cases t <;> simp) hne
        rw [hn, hsg]
        have := nearest_same false m (e + 149).toNat _ e hr h' he hm
        rw [show e - (((e + 149).toNat : Nat) : Int) = -149 by omega] at this
        rw [this]; rfl
      refine key _ ?_
      rcases hz with h | h
      · exact .inl (by rw [h]; rfl)
      · exact .inr h
    · have hz1 : ¬ (b / 2147483648 % 2 == 1) = true := fun h => hz (.inl h)
      have hz2 : ¬ m = 0 := fun h => hz (.inr h)
      have hc : ((b / 2147483648 % 2 == 1) || decide (m = 0)) = false := by simp [hz2]; simpa using hz1
      rw [hc]
      simp only [Bool.false_eq_true, if_false, Option.some.injEq]
      simp at hz1
      omega
  · have he : b % 2147483648 = 2139095040 := by omega
    have hd : Ieee.single.read b = .infinity (b / 2147483648 % 2 == 1) := by
      unfold Ieee.Format.read
      have hs : Ieee.single.signWeight = 2147483648 := rfl
      simp only [hs, he, hi, show Ieee.single.binade = 8388608 from rfl]
      rw [if_neg (by omega), if_neg (by omega), if_pos trivial]
    unfold fabs
    have ho : ford (some b) (some 0) = some (if (b / 2147483648 % 2 == 1) then .lt else .gt) := by
      show (Ieee.single.read b).order (Ieee.single.read 0) = _
      rw [hd, read0]; rfl
    cases hs : (b / 2147483648 % 2 == 1)
    · have : fle (some b) (some 0) = false := by unfold fle flt feq; rw [ho, hs]; rfl
      rw [this]
      simp only [Bool.false_eq_true, if_false, Option.some.injEq]
      simp at hs
      omega
    · have : fle (some b) (some 0) = true := by unfold fle flt feq; rw [ho, hs]; rfl
      rw [this, if_pos rfl]
      show ((Ieee.single.read 0).sum (Ieee.single.read b).opposite).map Ieee.single.write = _
      rw [hd, read0, hs, he]; rfl
end Go.Proofs.YtekemhibnokhcaaDoor
