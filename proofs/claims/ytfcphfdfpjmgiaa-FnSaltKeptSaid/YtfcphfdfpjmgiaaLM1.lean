/- Float arithmetic: bounds, rounding, values. -/
import Derived.Test.YtfcphfdfpjmgiaaLM0
namespace Go.Proofs.Ytfcphfdfpjmgiaa
open Go.RowKit

theorem log2_shl (m j : Nat) (h : m ≠ 0) : (m <<< j).log2 = m.log2 + j := by
  have hp : 0 < 2 ^ j := Nat.two_pow_pos j
  rw [Nat.shiftLeft_eq]
  refine (Nat.log2_eq_iff (Nat.mul_ne_zero h (Nat.pos_iff_ne_zero.1 hp))).2 ⟨?_, ?_⟩
  · rw [Nat.pow_add]; exact Nat.mul_le_mul_right _ (Nat.log2_self_le h)
  · rw [show m.log2 + j + 1 = (m.log2 + 1) + j by omega, Nat.pow_add]; exact Nat.mul_lt_mul_of_pos_right Nat.lt_log2_self hp

theorem cut_exact (s : Bool) (m j : Nat) (h : m ≠ 0) : Ieee.Toward.even.cut s (m <<< j) j = m := by
  unfold Ieee.Toward.cut
  have hg : min j ((m <<< j).log2 + 2) = j := by rw [log2_shl m j h]; omega
  have hp : 0 < 2 ^ j := Nat.two_pow_pos j
  rw [hg]
  simp only [Nat.shiftLeft_eq, Nat.one_mul]
  rw [Nat.mul_div_cancel _ hp, Nat.mul_mod_left]
  have : (2 ^ j == 2 * 0) = false := by simp
  simp

/-- The data of the finite numbers. -/
theorem read_rung (b : Nat) (h : b % 2147483648 < 2139095040) :
    ∃ m e, Ieee.single.read b = .number (b / 2147483648 % 2 == 1) m e ∧ (e + 149).toNat * 8388608 + m = b % 2147483648 ∧ -149 ≤ e ∧ ((e = -149 ∧ m < 8388608) ∨ (8388608 ≤ m ∧ m < 16777216)) := by
  have hb : Ieee.single.binade = 8388608 := rfl
  have hi : Ieee.single.infRung = 2139095040 := rfl
  have hl : Ieee.single.leastPlace = -149 := rfl
  have hs : Ieee.single.signWeight = 2147483648 := rfl
  unfold Ieee.Format.read
  simp only [hb, hi, hl, hs]
  split
  · exact ⟨_, _, rfl, by omega, by omega, .inl ⟨rfl, by omega⟩⟩
  · exact ⟨_, _, rfl, by omega, by omega, .inr ⟨by omega, by omega⟩⟩

/-- A number of the format, in other digits, is written as it was. -/
theorem nearest_same (s : Bool) (m j r : Nat) (e : Int) (hr : (e + 149).toNat * 8388608 + m = r) (hr2 : r < 2139095040) (he : -149 ≤ e) (hm : (e = -149 ∧ m < 8388608) ∨ (8388608 ≤ m ∧ m < 16777216)) :
    Ieee.single.nearest s (m <<< j) (e - j) = Ieee.single.word s r := by
  have hf : Ieee.single.fractionBits = 23 := rfl
  have hb : Ieee.single.binade = 8388608 := rfl
  have hi : Ieee.single.infRung = 2139095040 := rfl
  have hl : Ieee.single.leastPlace = -149 := rfl
  unfold Ieee.Format.nearest
  by_cases h0 : m = 0
  · subst h0
    rw [Nat.zero_shiftLeft, if_pos rfl]
    congr 1; omega
  · have hne : m <<< j ≠ 0 := by rw [Nat.shiftLeft_eq]; exact Nat.mul_ne_zero h0 (Nat.pos_iff_ne_zero.1 (Nat.two_pow_pos j))
    rw [if_neg hne]
    simp only [hf, hb, hi, hl, log2_shl m j h0]
    have hlog : (e = -149 ∧ m.log2 ≤ 22) ∨ m.log2 = 23 := by
      rcases hm with ⟨h1, h2⟩ | ⟨h1, h2⟩
      · exact .inl ⟨h1, by have := (Nat.log2_lt h0 (k := 23)).2 (by omega); omega⟩
      · refine .inr ?_
        have h3 := (Nat.log2_lt h0 (k := 24)).2 (by omega)
        have h4 := (Nat.le_log2 h0 (k := 23)).2 (by omega)
        omega
    have e1 : max (e - (j : Int) + ((m.log2 + j : Nat) : Int) - ((23 : Nat) : Int)) (-149) = e := by omega
    rw [e1]
    have e2 : (e - (j : Int) - e).toNat = 0 := by omega
    have e3 : (e - (e - (j : Int))).toNat = j := by omega
    rw [e2, e3, Nat.shiftLeft_zero, cut_exact s m j h0]
    congr 1
    have : (e - -149).toNat = (e + 149).toNat := by congr 1
    rw [this, hr]
    omega

def fabs (x : F) : F := if fle x (some 0) then fsub (some 0) x else x
def Fits (x : F) : Prop := ∀ b, x = some b → b < 4294967296

theorem write_fits (d : Ieee.Datum) (h : d.isNaN = false) : Ieee.single.write d < 4294967296 := by
  have hs : Ieee.single.signWeight = 2147483648 := rfl
  have hi : Ieee.single.infRung = 2139095040 := rfl
  have key : ∀ s r, r ≤ Ieee.single.infRung → Ieee.single.word s r < 4294967296 := fun s r hr => by
    unfold Ieee.Format.word
    rw [hi] at hr
    split
    · rw [hs]; omega
    · omega
  cases d with
  | number s m e =>
    obtain ⟨r, hr, he⟩ := nearest_rung Ieee.single s m e
    show Ieee.single.nearest s m e < _
    rw [he]; exact key s r hr
  | infinity s => exact key s _ (Nat.le_refl _)
  | nan s t => cases h

theorem fsub_fits (x y : F) : Fits (fsub x y) := by
  intro b h
  cases x with
  | none => cases h
  | some p => cases y with
    | none => cases h
    | some q =>
      have h' : ((Ieee.single.read p).sum (Ieee.single.read q).opposite).map Ieee.single.write = some b := h
      cases hd : (Ieee.single.read p).sum (Ieee.single.read q).opposite with
      | none => rw [hd] at h'; cases h'
      | some d => rw [hd] at h'; cases h'; exact write_fits d (sum_num hd)

theorem read0 : Ieee.single.read 0 = .number false 0 (-149) := by decide

theorem order_zero {b : Nat} {s : Bool} {m : Nat} {e : Int} (hd : Ieee.single.read b = .number s m e) (he : -149 ≤ e) :
    fle (some b) (some 0) = (s || decide (m = 0)) := by
  have h : ford (some b) (some 0) = some (compare (Ieee.signed s m (e + 149).toNat) 0) := by
    show (Ieee.single.read b).order (Ieee.single.read 0) = _
    rw [hd, read0]
    simp only [Ieee.Datum.order]
    have e1 : min e (-149) = -149 := by omega
    rw [e1, show (-149 - -149 : Int) = 0 by omega, show e - -149 = e + 149 by omega]
    rfl
  have hM : m <<< (e + 149).toNat = 0 ↔ m = 0 := by
    rw [Nat.shiftLeft_eq, Nat.mul_eq_zero]
    have := Nat.two_pow_pos (e + 149).toNat
    constructor
    · rintro (h | h)
      · exact h
      · omega
    · exact .inl
  unfold fle flt feq
  rw [h]
  unfold Ieee.signed
  generalize m <<< (e + 149).toNat = M at hM
  cases s
  · by_cases h0 : m = 0
    · have : M = 0 := hM.2 h0
      subst this
      simp [h0]
    · have h1 : M ≠ 0 := fun h => h0 (hM.1 h)
      have : compare ((M : Nat) : Int) 0 = .gt := Int.compare_eq_gt.2 (by omega)
      simp [this, h0]
  · by_cases h0 : M = 0
    · subst h0; simp
    · have : compare (-((M : Nat) : Int)) 0 = .lt := Int.compare_eq_lt.2 (by omega)
      simp [this]

theorem fabs_num (b : Nat) (hb : b < 4294967296) (h : b % 2147483648 ≤ 2139095040) : fabs (some b) = some (b % 2147483648) := by
  have hi : Ieee.single.infRung = 2139095040 := rfl
  rcases Nat.lt_or_ge (b % 2147483648) 2139095040 with h' | h'
  · obtain ⟨m, e, hd, hr, he, hm⟩ := read_rung b h'
    unfold fabs
    rw [order_zero hd he]
    by_cases hz : (b / 2147483648 % 2 == 1) = true ∨ m = 0
    · have hc : ((b / 2147483648 % 2 == 1) || decide (m = 0)) = true := by simpa using hz
      rw [if_pos hc]
      show ((Ieee.single.read 0).sum (Ieee.single.read b).opposite).map Ieee.single.write = _
      rw [hd, read0]
      simp only [Ieee.Datum.opposite, Ieee.Datum.sum, Option.map_some, Option.some.injEq]
      have e1 : min (-149) e = -149 := by omega
      rw [e1, show (-149 - -149 : Int) = 0 by omega, show e - -149 = e + 149 by omega]
      have hs0 : Ieee.signed false 0 (Int.toNat 0) = 0 := by decide
      rw [hs0, Int.zero_add]
      have key : ∀ t : Bool, (t = false ∨ m = 0) → Ieee.single.nearest (if Ieee.signed t m (e + 149).toNat = 0 then false && t else decide (Ieee.signed t m (e + 149).toNat < 0)) (Ieee.signed t m (e + 149).toNat).natAbs (-149) = b % 2147483648 := fun t ht => by
        have hn : (Ieee.signed t m (e + 149).toNat).natAbs = m <<< (e + 149).toNat := by
          unfold Ieee.signed; generalize m <<< (e + 149).toNat = M; cases t <;> simp
        have hsg : (if Ieee.signed t m (e + 149).toNat = 0 then false && t else decide (Ieee.signed t m (e + 149).toNat < 0)) = false := by
          split
          · simp
          · rcases ht with rfl | rfl
            · unfold Ieee.signed; generalize m <<< (e + 149).toNat = M; simp
            · rename_i hne; exact absurd (by unfold Ieee.signed; cases t <;> simp) hne
        rw [hn, hsg]
        have := nearest_same false m (e + 149).toNat _ e hr h' he hm
        rw [show e - (((e + 149).toNat : Nat) : Int) = -149 by omega] at this
        rw [this]; rfl
      refine key _ ?_
      rcases hz with h | h
      · exact .inl (by rw [h]; rfl)
      · exact .inr h
    · have hz1 : ¬ (b / 2147483648 % 2 == 1) = true := fun h => hz (.inl h)
      have hz2 : ¬ m = 0 := fun h => hz (.inr h)
      have hc : ((b / 2147483648 % 2 == 1) || decide (m = 0)) = false := by simp [hz2]; simpa using hz1
      rw [hc]
      simp only [Bool.false_eq_true, if_false, Option.some.injEq]
      simp at hz1
      omega
  · have he : b % 2147483648 = 2139095040 := by omega
    have hd : Ieee.single.read b = .infinity (b / 2147483648 % 2 == 1) := by
      unfold Ieee.Format.read
      have hs : Ieee.single.signWeight = 2147483648 := rfl
      simp only [hs, he, hi, show Ieee.single.binade = 8388608 from rfl]
      rw [if_neg (by omega), if_neg (by omega), if_pos trivial]
    unfold fabs
    have ho : ford (some b) (some 0) = some (if (b / 2147483648 % 2 == 1) then .lt else .gt) := by
      show (Ieee.single.read b).order (Ieee.single.read 0) = _
      rw [hd, read0]; rfl
    cases hs : (b / 2147483648 % 2 == 1)
    · have : fle (some b) (some 0) = false := by unfold fle flt feq; rw [ho, hs]; rfl
      rw [this]
      simp only [Bool.false_eq_true, if_false, Option.some.injEq]
      simp at hs
      omega
    · have : fle (some b) (some 0) = true := by unfold fle flt feq; rw [ho, hs]; rfl
      rw [this, if_pos rfl]
      show ((Ieee.single.read 0).sum (Ieee.single.read b).opposite).map Ieee.single.write = _
      rw [hd, read0, hs, he]; rfl
end Go.Proofs.Ytfcphfdfpjmgiaa

namespace Go.Proofs.Ytfcphfdfpjmgiaa
open Go.RowKit

/-- The place of the leading digit of 'm * 2 ^ e'. -/
def lg (m : Nat) (e : Int) : Int := (m.log2 : Int) + e

theorem cut_bounds (s : Bool) (n d : Nat) : n / 2 ^ d ≤ Ieee.Toward.even.cut s n d ∧ Ieee.Toward.even.cut s n d ≤ n / 2 ^ d + 1 := by
  unfold Ieee.Toward.cut
  simp only [Nat.one_shiftLeft]
  have hb : ∀ b : Bool, b.toNat ≤ 1 := fun b => by cases b <;> decide
  rcases Nat.lt_or_ge (n.log2 + 2) d with h | h
  · have e1 : min d (n.log2 + 2) = n.log2 + 2 := by omega
    rw [e1]
    have hn : n < 2 ^ (n.log2 + 1) := Nat.lt_log2_self
    have h2 : n < 2 ^ (n.log2 + 2) := Nat.lt_of_lt_of_le hn (Nat.pow_le_pow_right (by decide) (by omega))
    have h3 : n < 2 ^ d := Nat.lt_of_lt_of_le h2 (Nat.pow_le_pow_right (by decide) (by omega))
    rw [Nat.div_eq_of_lt h3, Nat.div_eq_of_lt h2]
    have := hb (decide (2 ^ (n.log2 + 2) < 2 * (n % 2 ^ (n.log2 + 2))) || 2 ^ (n.log2 + 2) == 2 * (n % 2 ^ (n.log2 + 2)) && 0 % 2 == 1)
    omega
  · have e1 : min d (n.log2 + 2) = d := by omega
    rw [e1]
    have := hb (decide (2 ^ d < 2 * (n % 2 ^ d)) || 2 ^ d == 2 * (n % 2 ^ d) && n / 2 ^ d % 2 == 1)
    omega

/-- What a rounded number is. -/
theorem nearest_data (s : Bool) (mag : Nat) (place : Int) (h0 : mag ≠ 0) (hub : lg mag place ≤ 126) :
    ∃ m e, Ieee.single.read (Ieee.single.nearest s mag place) = .number s m e ∧ -149 ≤ e ∧ (m = 0 ∨ lg m e ≤ max (lg mag place + 1) (-149)) ∧ (-149 ≤ lg mag place → m ≠ 0 ∧ lg mag place ≤ lg m e) := by
  have hf : Ieee.single.fractionBits = 23 := rfl
  have hb : Ieee.single.binade = 8388608 := rfl
  have hi : Ieee.single.infRung = 2139095040 := rfl
  have hl : Ieee.single.leastPlace = -149 := rfl
  have hs : Ieee.single.signWeight = 2147483648 := rfl
  -- the kept digits
  have hkept : ∃ kept : Nat, Ieee.single.nearest s mag place = Ieee.single.word s (min ((max (lg mag place - 23) (-149) + 149).toNat * 8388608 + kept) 2139095040) ∧
      (-126 ≤ lg mag place → 8388608 ≤ kept ∧ kept ≤ 16777216) ∧ (lg mag place < -126 → kept ≤ 2 ^ (lg mag place + 150).toNat ∧ (-149 ≤ lg mag place → 2 ^ (lg mag place + 149).toNat ≤ kept)) := by
    unfold Ieee.Format.nearest
    rw [if_neg h0]
    simp only [hf, hb, hi, hl]
    have e1 : max (place + (mag.log2 : Int) - ((23 : Nat) : Int)) (-149) = max (lg mag place - 23) (-149) := by unfold lg; omega
    rw [e1]
    refine ⟨_, rfl, ?_, ?_⟩
    · intro hk
      have hlg : lg mag place = (mag.log2 : Int) + place := rfl
      have e2 : max (lg mag place - 23) (-149) = lg mag place - 23 := by omega
      rw [e2]
      have hlt : mag < 2 ^ (mag.log2 + 1) := Nat.lt_log2_self
      have hge : 2 ^ mag.log2 ≤ mag := Nat.log2_self_le h0
      rcases Nat.lt_or_ge mag.log2 23 with h | h
      · have e3 : (lg mag place - 23 - place).toNat = 0 := by omega
        have e4 : (place - (lg mag place - 23)).toNat = 23 - mag.log2 := by omega
        rw [e3, e4, cut_zero, Nat.shiftLeft_eq]
        constructor
        · calc 8388608 = 2 ^ mag.log2 * 2 ^ (23 - mag.log2) := by rw [← Nat.pow_add, show mag.log2 + (23 - mag.log2) = 23 by omega]
            _ ≤ mag * 2 ^ (23 - mag.log2) := Nat.mul_le_mul_right _ hge
        · refine Nat.le_of_lt ?_
          calc mag * 2 ^ (23 - mag.log2) < 2 ^ (mag.log2 + 1) * 2 ^ (23 - mag.log2) := Nat.mul_lt_mul_of_pos_right hlt (Nat.two_pow_pos _)
            _ = 16777216 := by rw [← Nat.pow_add, show mag.log2 + 1 + (23 - mag.log2) = 24 by omega]
      · have e3 : (lg mag place - 23 - place).toNat = mag.log2 - 23 := by omega
        have e4 : (place - (lg mag place - 23)).toNat = 0 := by omega
        rw [e3, e4, Nat.shiftLeft_zero]
        obtain ⟨b1, b2⟩ := cut_bounds s mag (mag.log2 - 23)
        have hp : 0 < 2 ^ (mag.log2 - 23) := Nat.two_pow_pos _
        have q1 : 8388608 ≤ mag / 2 ^ (mag.log2 - 23) := by
          rw [Nat.le_div_iff_mul_le hp]
          calc 8388608 * 2 ^ (mag.log2 - 23) = 2 ^ mag.log2 := by rw [show (8388608 : Nat) = 2 ^ 23 from rfl, ← Nat.pow_add, show 23 + (mag.log2 - 23) = mag.log2 by omega]
            _ ≤ mag := hge
        have q2 : mag / 2 ^ (mag.log2 - 23) < 16777216 := by
          rw [Nat.div_lt_iff_lt_mul hp]
          calc mag < 2 ^ (mag.log2 + 1) := hlt
            _ = 16777216 * 2 ^ (mag.log2 - 23) := by rw [show (16777216 : Nat) = 2 ^ 24 from rfl, ← Nat.pow_add, show 24 + (mag.log2 - 23) = mag.log2 + 1 by omega]
        omega
    · intro hk
      have hlg : lg mag place = (mag.log2 : Int) + place := rfl
      have e2 : max (lg mag place - 23) (-149) = -149 := by omega
      rw [e2]
      have hlt : mag < 2 ^ (mag.log2 + 1) := Nat.lt_log2_self
      have hge : 2 ^ mag.log2 ≤ mag := Nat.log2_self_le h0
      rcases Int.lt_or_le place (-149) with h | h
      · have e4 : (place - -149).toNat = 0 := by omega
        rw [e4, Nat.shiftLeft_zero]
        obtain ⟨b1, b2⟩ := cut_bounds s mag (-149 - place).toNat
        generalize hd : (-149 - place).toNat = d at *
        have hp : 0 < 2 ^ d := Nat.two_pow_pos _
        constructor
        · rcases Int.lt_or_le (lg mag place) (-149) with h2 | h2
          · have : mag / 2 ^ d = 0 := Nat.div_eq_of_lt (Nat.lt_of_lt_of_le hlt (Nat.pow_le_pow_right (by decide) (by omega)))
            have h1 := Nat.one_le_two_pow (n := (lg mag place + 150).toNat)
            omega
          · have : mag / 2 ^ d < 2 ^ (lg mag place + 150).toNat := by
              rw [Nat.div_lt_iff_lt_mul hp, ← Nat.pow_add, show (lg mag place + 150).toNat + d = mag.log2 + 1 by omega]
              exact hlt
            omega
        · intro h2
          refine Nat.le_trans ?_ b1
          rw [Nat.le_div_iff_mul_le hp, ← Nat.pow_add, show (lg mag place + 149).toNat + d = mag.log2 by omega]
          exact hge
      · have e3 : (-149 - place).toNat = 0 := by omega
        rw [e3, cut_zero, Nat.shiftLeft_eq]
        constructor
        · refine Nat.le_of_lt ?_
          calc mag * 2 ^ (place - -149).toNat < 2 ^ (mag.log2 + 1) * 2 ^ (place - -149).toNat := Nat.mul_lt_mul_of_pos_right hlt (Nat.two_pow_pos _)
            _ = 2 ^ (lg mag place + 150).toNat := by rw [← Nat.pow_add, show mag.log2 + 1 + (place - -149).toNat = (lg mag place + 150).toNat by omega]
        · intro _
          calc 2 ^ (lg mag place + 149).toNat = 2 ^ mag.log2 * 2 ^ (place - -149).toNat := by rw [← Nat.pow_add, show mag.log2 + (place - -149).toNat = (lg mag place + 149).toNat by omega]
            _ ≤ mag * 2 ^ (place - -149).toNat := Nat.mul_le_mul_right _ hge
  obtain ⟨kept, hk1, hk2, hk3⟩ := hkept
  rw [hk1]
  have hrd : ∀ r, r < 2139095040 → ∃ m e, Ieee.single.read (Ieee.single.word s r) = .number s m e ∧ (e + 149).toNat * 8388608 + m = r ∧ -149 ≤ e ∧ ((e = -149 ∧ m < 8388608) ∨ (8388608 ≤ m ∧ m < 16777216)) := by
    intro r hr
    have hm : Ieee.single.word s r % 2147483648 = r := by
      unfold Ieee.Format.word
      split
      · rw [hs, Nat.add_mod_left]; exact Nat.mod_eq_of_lt (by omega)
      · exact Nat.mod_eq_of_lt (by omega)
    obtain ⟨m, e, h1, h2, h3, h4⟩ := read_rung (Ieee.single.word s r) (by omega)
    refine ⟨m, e, ?_, by omega, h3, h4⟩
    have hsg : (Ieee.single.word s r / 2147483648 % 2 == 1) = s := by
      unfold Ieee.Format.word
      cases s
      · simp only [Bool.false_eq_true, if_false]; rw [Nat.div_eq_of_lt (by omega)]; rfl
      · simp only [if_true]; rw [hs, show (2147483648 + r) / 2147483648 = 1 by omega]; rfl
    rw [h1, hsg]
  rcases Int.lt_or_le (lg mag place) (-126) with h | h
  · obtain ⟨k1, k2⟩ := hk3 h
    have e2 : (max (lg mag place - 23) (-149) + 149).toNat = 0 := by omega
    have hkb : kept ≤ 8388608 := Nat.le_trans k1 (by
      calc 2 ^ (lg mag place + 150).toNat ≤ 2 ^ 23 := Nat.pow_le_pow_right (by decide) (by omega)
        _ = 8388608 := rfl)
    rw [e2, Nat.zero_mul, Nat.zero_add, Nat.min_eq_left (by omega)]
    obtain ⟨m, e, h1, h2, h3, h4⟩ := hrd kept (by omega)
    refine ⟨m, e, h1, h3, ?_, ?_⟩
    · by_cases hm0 : m = 0
      · exact .inl hm0
      · refine .inr ?_
        have he : e = -149 := by omega
        have hmk : m = kept := by omega
        have : m.log2 ≤ (lg mag place + 150).toNat := by
          rcases Nat.lt_or_ge (lg mag place + 150).toNat m.log2 with hh | hh
          · have h5 := Nat.log2_self_le hm0
            have h6 : 2 ^ (lg mag place + 150).toNat < 2 ^ m.log2 := Nat.pow_lt_pow_right (by decide) hh
            omega
          · exact hh
        show (m.log2 : Int) + e ≤ _
        omega
    · intro hlo
      have k2' := k2 hlo
      have he : e = -149 := by omega
      have hmk : m = kept := by omega
      have hp := Nat.two_pow_pos (lg mag place + 149).toNat
      refine ⟨by omega, ?_⟩
      have : (lg mag place + 149).toNat ≤ m.log2 := (Nat.le_log2 (by omega)).2 (by rw [hmk]; exact k2')
      show _ ≤ (m.log2 : Int) + e
      omega
  · obtain ⟨k1, k2⟩ := hk2 h
    have e2 : max (lg mag place - 23) (-149) = lg mag place - 23 := by omega
    rw [e2]
    have hr : (lg mag place - 23 + 149).toNat * 8388608 + kept < 2139095040 := by
      have : (lg mag place - 23 + 149).toNat ≤ 252 := by omega
      omega
    rw [Nat.min_eq_left (by omega)]
    obtain ⟨m, e, h1, h2, h3, h4⟩ := hrd _ hr
    have hm1 : 8388608 ≤ m := by omega
    have hlog : m.log2 = 23 := by
      have h5 := (Nat.log2_lt (n := m) (k := 24) (by omega)).2 (by omega)
      have h6 := (Nat.le_log2 (n := m) (k := 23) (by omega)).2 (by omega)
      omega
    refine ⟨m, e, h1, h3, .inr ?_, fun _ => ⟨by omega, ?_⟩⟩
    · show (m.log2 : Int) + e ≤ _
      rw [hlog]
      omega
    · show _ ≤ (m.log2 : Int) + e
      rw [hlog]
      omega
end Go.Proofs.Ytfcphfdfpjmgiaa

namespace Go.Proofs.Ytfcphfdfpjmgiaa
open Go.RowKit

/-- A finite number below '2 ^ (k + 1)' in size. -/
def Le (x : F) (k : Int) : Prop := ∃ b s m e, x = some b ∧ Ieee.single.read b = .number s m e ∧ -149 ≤ e ∧ (m = 0 ∨ lg m e ≤ k)
/-- A finite positive number, at least '2 ^ k'. -/
def Ge (x : F) (k : Int) : Prop := ∃ b m e, x = some b ∧ Ieee.single.read b = .number false m e ∧ -149 ≤ e ∧ m ≠ 0 ∧ k ≤ lg m e

theorem Le.mono {x : F} {k k' : Int} (h : Le x k) (hk : k ≤ k') : Le x k' := by
  obtain ⟨b, s, m, e, h1, h2, h3, h4⟩ := h
  exact ⟨b, s, m, e, h1, h2, h3, h4.imp id (fun h => Int.le_trans h hk)⟩

theorem nearest_zero (s : Bool) (p : Int) : Ieee.single.read (Ieee.single.nearest s 0 p) = .number s 0 (-149) := by
  unfold Ieee.Format.nearest
  rw [if_pos rfl]
  cases s <;> decide

/-- A rounded number is bounded as the number is. -/
theorem write_le {d : Ieee.Datum} {s : Bool} {mag : Nat} {place k : Int} (hd : d = .number s mag place) (h : mag = 0 ∨ lg mag place ≤ k) (hk : k ≤ 126) : Le (some (Ieee.single.write d)) (max (k + 1) (-149)) := by
  subst hd
  by_cases h0 : mag = 0
  · subst h0
    exact ⟨_, s, 0, -149, rfl, nearest_zero s place, by omega, .inl rfl⟩
  · have hl : lg mag place ≤ k := h.resolve_left h0
    obtain ⟨m, e, h1, h2, h3, _⟩ := nearest_data s mag place h0 (by omega)
    exact ⟨_, s, m, e, rfl, h1, h2, h3.imp id (fun h => by omega)⟩

theorem log2_mul (m n : Nat) (hm : m ≠ 0) (hn : n ≠ 0) : (m * n).log2 ≤ m.log2 + n.log2 + 1 := by
  have h0 : m * n ≠ 0 := Nat.mul_ne_zero hm hn
  have h1 : m < 2 ^ (m.log2 + 1) := Nat.lt_log2_self
  have h2 : n < 2 ^ (n.log2 + 1) := Nat.lt_log2_self
  have h3 : m * n < 2 ^ (m.log2 + n.log2 + 2) := by
    calc m * n < 2 ^ (m.log2 + 1) * 2 ^ (n.log2 + 1) := Nat.mul_lt_mul'' h1 h2
      _ = 2 ^ (m.log2 + n.log2 + 2) := by rw [← Nat.pow_add]; congr 1; omega
  have := (Nat.log2_lt h0).2 h3
  omega

theorem fmul_le {x y : F} {i j : Int} (hx : Le x i) (hy : Le y j) (hk : i + j + 1 ≤ 126) : Le (fmul x y) (max (i + j + 2) (-149)) := by
  obtain ⟨a, s, m, e, rfl, ha, _, hm⟩ := hx
  obtain ⟨b, t, n, f, rfl, hb, _, hn⟩ := hy
  have h : fmul (some a) (some b) = some (Ieee.single.write (.number (s ^^ t) (m * n) (e + f))) := by
    show ((Ieee.single.read a).product (Ieee.single.read b)).map Ieee.single.write = _
    rw [ha, hb]; rfl
  rw [h]
  have := write_le (d := .number (s ^^ t) (m * n) (e + f)) (k := i + j + 1) rfl ?_ hk
  · exact this.mono (by omega)
  · by_cases h0 : m * n = 0
    · exact .inl h0
    · refine .inr ?_
      have hm0 : m ≠ 0 := fun h => h0 (by rw [h, Nat.zero_mul])
      have hn0 : n ≠ 0 := fun h => h0 (by rw [h, Nat.mul_zero])
      have h1 := hm.resolve_left hm0
      have h2 := hn.resolve_left hn0
      have h3 := log2_mul m n hm0 hn0
      unfold lg at *
      omega

theorem shl_lt {m : Nat} {e base k : Int} (hb : base ≤ e) (h : m = 0 ∨ lg m e ≤ k) : m <<< (e - base).toNat < 2 ^ (k + 1 - base).toNat := by
  rw [Nat.shiftLeft_eq]
  by_cases h0 : m = 0
  · subst h0; rw [Nat.zero_mul]; exact Nat.two_pow_pos _
  · have hl := h.resolve_left h0
    have h1 : m < 2 ^ (m.log2 + 1) := Nat.lt_log2_self
    calc m * 2 ^ (e - base).toNat < 2 ^ (m.log2 + 1) * 2 ^ (e - base).toNat := Nat.mul_lt_mul_of_pos_right h1 (Nat.two_pow_pos _)
      _ = 2 ^ (m.log2 + 1 + (e - base).toNat) := by rw [← Nat.pow_add]
      _ ≤ 2 ^ (k + 1 - base).toNat := Nat.pow_le_pow_right (by decide) (by unfold lg at hl; omega)

theorem signed_abs (s : Bool) (m up : Nat) : (Ieee.signed s m up).natAbs = m <<< up := by
  unfold Ieee.signed; generalize m <<< up = M; cases s <;> simp

theorem sum_le {s t : Bool} {m n : Nat} {e f i j k : Int} (hm : m = 0 ∨ lg m e ≤ i) (hn : n = 0 ∨ lg n f ≤ j) (hi : i ≤ k) (hj : j ≤ k) :
    (Ieee.signed s m (e - min e f).toNat + Ieee.signed t n (f - min e f).toNat).natAbs = 0 ∨ lg (Ieee.signed s m (e - min e f).toNat + Ieee.signed t n (f - min e f).toNat).natAbs (min e f) ≤ k + 1 := by
  generalize hB : min e f = B
  have h1 := shl_lt (m := m) (e := e) (base := B) (k := k) (by omega) (hm.imp id (fun h => by omega))
  have h2 := shl_lt (m := n) (e := f) (base := B) (k := k) (by omega) (hn.imp id (fun h => by omega))
  have a1 := signed_abs s m (e - B).toNat
  have a2 := signed_abs t n (f - B).toNat
  by_cases h0 : (Ieee.signed s m (e - B).toNat + Ieee.signed t n (f - B).toNat).natAbs = 0
  · exact .inl h0
  · refine .inr ?_
    have hk : B ≤ k := by
      by_cases hm0 : m = 0
      · by_cases hn0 : n = 0
        · subst hm0; subst hn0
          rw [Nat.zero_shiftLeft] at a1 a2
          omega
        · have := hn.resolve_left hn0
          unfold lg at this
          omega
      · have := hm.resolve_left hm0
        unfold lg at this
        omega
    generalize Ieee.signed s m (e - B).toNat = S at *
    generalize Ieee.signed t n (f - B).toNat = T at *
    have h3 : (S + T).natAbs < 2 ^ ((k + 1 - B).toNat + 1) := by
      rw [Nat.pow_succ]
      omega
    have := (Nat.log2_lt h0).2 h3
    unfold lg
    omega

theorem fsub_le {x y : F} {i j k : Int} (hx : Le x i) (hy : Le y j) (hi : i ≤ k) (hj : j ≤ k) (hk : k + 1 ≤ 126) : Le (fsub x y) (max (k + 2) (-149)) := by
  obtain ⟨a, s, m, e, rfl, ha, _, hm⟩ := hx
  obtain ⟨b, t, n, f, rfl, hb, _, hn⟩ := hy
  have hs := sum_le (s := s) (t := !t) hm hn hi hj
  have h : ∃ sg, fsub (some a) (some b) = some (Ieee.single.write (.number sg (Ieee.signed s m (e - min e f).toNat + Ieee.signed (!t) n (f - min e f).toNat).natAbs (min e f))) := by
    refine ⟨if Ieee.signed s m (e - min e f).toNat + Ieee.signed (!t) n (f - min e f).toNat = 0 then s && !t else decide (Ieee.signed s m (e - min e f).toNat + Ieee.signed (!t) n (f - min e f).toNat < 0), ?_⟩
    show ((Ieee.single.read a).sum (Ieee.single.read b).opposite).map Ieee.single.write = _
    rw [ha, hb]; rfl
  obtain ⟨sg, h⟩ := h
  rw [h]
  exact (write_le (k := k + 1) rfl hs hk).mono (by omega)

/-- The sum of two positive numbers is not below either. -/
theorem fadd_ge {x y : F} {i j k : Int} (hx : Le x i) (hx0 : ∃ b m e, x = some b ∧ Ieee.single.read b = .number false m e) (hy : Ge y j) (hy2 : Le y i) (hi : i + 1 ≤ 126) (hj : k ≤ j) (hk : -149 ≤ k) : Ge (fadd x y) k := by
  obtain ⟨a, m, e, rfl, ha⟩ := hx0
  obtain ⟨a', s', m', e', e1, ha', _, hm⟩ := hx
  cases e1
  rw [ha] at ha'
  cases ha'
  obtain ⟨b, n, f, rfl, hb, _, hn0, hn⟩ := hy
  obtain ⟨b', t', n', f', e2, hb', _, hn2⟩ := hy2
  cases e2
  rw [hb] at hb'
  cases hb'
  have hs := sum_le (s := false) (t := false) hm hn2 (Int.le_refl i) (Int.le_refl i)
  generalize hB : min e f = B at hs
  have hT : (Ieee.signed false m (e - B).toNat + Ieee.signed false n (f - B).toNat) = ((m <<< (e - B).toNat + n <<< (f - B).toNat : Nat) : Int) := by unfold Ieee.signed; simp
  have hQ0 : n <<< (f - B).toNat ≠ 0 := by rw [Nat.shiftLeft_eq]; exact Nat.mul_ne_zero hn0 (Nat.pos_iff_ne_zero.1 (Nat.two_pow_pos _))
  have hQ1 : 2 ^ (n.log2 + (f - B).toNat) ≤ n <<< (f - B).toNat := by
    rw [Nat.pow_add, Nat.shiftLeft_eq]
    exact Nat.mul_le_mul_right _ (Nat.log2_self_le hn0)
  rw [hT] at hs
  have h : ∀ P Q : Nat, m <<< (e - B).toNat = P → n <<< (f - B).toNat = Q → Q ≠ 0 → fadd (some a) (some b) = some (Ieee.single.write (.number false (P + Q) B)) := by
    intro P Q h1 h2 h3
    show ((Ieee.single.read a).sum (Ieee.single.read b)).map Ieee.single.write = _
    rw [ha, hb]
    simp only [Ieee.Datum.sum, hB, hT, Option.map_some, Int.natAbs_natCast, h1, h2]
    rw [if_neg (by omega), decide_eq_false (by omega)]
  have h := h _ _ rfl rfl hQ0
  rw [h]
  generalize m <<< (e - B).toNat = P at hs
  generalize n <<< (f - B).toNat = Q at hs hQ0 hQ1
  rw [Int.natAbs_natCast] at hs
  have hM0 : P + Q ≠ 0 := by omega
  have hub : lg (P + Q) B ≤ 126 := by have := hs.resolve_left hM0; omega
  obtain ⟨q, g, h1, h2, _, h4⟩ := nearest_data false (P + Q) B hM0 hub
  have hlow : j ≤ lg (P + Q) B := by
    have h6 := (Nat.le_log2 hM0).2 (Nat.le_trans hQ1 (Nat.le_add_left Q P))
    have hl : lg n f = (n.log2 : Int) + f := rfl
    show j ≤ ((P + Q).log2 : Int) + B
    omega
  obtain ⟨h7, h8⟩ := h4 (by omega)
  exact ⟨_, q, g, rfl, h1, h2, h7, by omega⟩

theorem fdiv_le {x y : F} {i j : Int} (hx : Le x i) (hy : Ge y j) (hk : i - j ≤ 126) : Le (fdiv x y) (max (i - j + 1) (-149)) := by
  obtain ⟨a, s, m, e, rfl, ha, _, hm⟩ := hx
  obtain ⟨b, n, f, rfl, hb, _, hn0, hn⟩ := hy
  have hf : Ieee.single.fractionBits = 23 := rfl
  generalize hmore : 25 + n.log2 - m.log2 = more
  have h : fdiv (some a) (some b) = some (Ieee.single.write (.number (s ^^ false) (2 * ((m <<< more) / n) + ((m <<< more) % n != 0).toNat) (e - f - more - 1))) := by
    show ((Ieee.single.read a).quotient (Ieee.single.fractionBits + 2) (Ieee.single.read b)).map Ieee.single.write = _
    rw [ha, hb, hf]
    simp only [Ieee.Datum.quotient]
    rw [if_neg hn0]
    simp only [Option.map_some]
    rw [show 23 + 2 + n.log2 - m.log2 = more from hmore]
  rw [h]
  refine (write_le (k := i - j) rfl ?_ hk).mono (by omega)
  by_cases hm0 : m = 0
  · refine .inl ?_
    subst hm0
    rw [Nat.zero_shiftLeft, Nat.zero_div, Nat.zero_mod]; rfl
  · have hl := hm.resolve_left hm0
    by_cases hz : 2 * ((m <<< more) / n) + ((m <<< more) % n != 0).toNat = 0
    · exact .inl hz
    · refine .inr ?_
      have hlt : m < 2 ^ (m.log2 + 1) := Nat.lt_log2_self
      have hge : 2 ^ n.log2 ≤ n := Nat.log2_self_le hn0
      have hq : (m <<< more) / n < 2 ^ (m.log2 + 1 + more - n.log2) := by
        rw [Nat.div_lt_iff_lt_mul (Nat.pos_of_ne_zero hn0), Nat.shiftLeft_eq]
        calc m * 2 ^ more < 2 ^ (m.log2 + 1) * 2 ^ more := Nat.mul_lt_mul_of_pos_right hlt (Nat.two_pow_pos _)
          _ = 2 ^ (m.log2 + 1 + more - n.log2) * 2 ^ n.log2 := by rw [← Nat.pow_add, ← Nat.pow_add]; congr 1; omega
          _ ≤ 2 ^ (m.log2 + 1 + more - n.log2) * n := Nat.mul_le_mul_left _ hge
      have hb1 : ((m <<< more) % n != 0).toNat ≤ 1 := by cases ((m <<< more) % n != 0) <;> decide
      have h2 : 2 * ((m <<< more) / n) + ((m <<< more) % n != 0).toNat < 2 ^ (m.log2 + 1 + more - n.log2 + 1) := by
        rw [Nat.pow_succ]; omega
      have := (Nat.log2_lt hz).2 h2
      unfold lg at *
      omega
end Go.Proofs.Ytfcphfdfpjmgiaa

namespace Go.Proofs.Ytfcphfdfpjmgiaa
open Go.RowKit

/-- A plain number is finite. -/
theorem plain_num {x : F} (h : plain x = true) : ∃ b s m e, x = some b ∧ Ieee.single.read b = .number s m e := by
  cases x with
  | none => cases h
  | some b =>
    unfold plain at h
    simp only [Bool.and_eq_true] at h
    obtain ⟨h1, h2⟩ := h
    cases hd : Ieee.single.read b with
    | number s m e => exact ⟨b, s, m, e, rfl, hd⟩
    | infinity s =>
      exfalso
      have e1 : Ieee.single.read 3380609024 = .number true 8388608 (-3) := by decide
      have e2 : Ieee.single.read 1233125376 = .number false 8388608 (-3) := by decide
      have o1 : ford (some b) (some 3380609024) = some (if s then .lt else .gt) := by
        show (Ieee.single.read b).order (Ieee.single.read 3380609024) = _
        rw [hd, e1]; rfl
      have o2 : ford (some b) (some 1233125376) = some (if s then .lt else .gt) := by
        show (Ieee.single.read b).order (Ieee.single.read 1233125376) = _
        rw [hd, e2]; rfl
      unfold fge fgt feq at h1
      unfold fle flt feq at h2
      rw [o1] at h1
      rw [o2] at h2
      cases s
      · simp at h2
      · simp at h1
    | nan s t =>
      exfalso
      have o1 : ford (some b) (some 3380609024) = none := by
        show (Ieee.single.read b).order _ = _
        rw [hd]; rfl
      unfold fge fgt feq at h1
      rw [o1] at h1
      simp at h1

theorem fsub_plain {x y : F} (hx : plain x = true) (hy : plain y = true) : ∃ d, fsub x y = some d ∧ d < 4294967296 ∧ d % 2147483648 ≤ 2139095040 := by
  obtain ⟨a, s, m, e, rfl, ha⟩ := plain_num hx
  obtain ⟨b, t, n, f, rfl, hb⟩ := plain_num hy
  have h : ∃ d, fsub (some a) (some b) = some d := by
    show ∃ d, ((Ieee.single.read a).sum (Ieee.single.read b).opposite).map Ieee.single.write = some d
    rw [ha, hb]
    exact ⟨_, rfl⟩
  obtain ⟨d, hd⟩ := h
  refine ⟨d, hd, fsub_fits _ _ d hd, ?_⟩
  have hn : fb d = some d := fb_sub hd
  unfold fb fbOf at hn
  split at hn
  · cases hn
  · rename_i hnn
    rcases Nat.lt_or_ge 2139095040 (d % 2147483648) with h1 | h1
    · exfalso
      apply hnn
      have hbi : Ieee.single.binade = 8388608 := rfl
      have hi : Ieee.single.infRung = 2139095040 := rfl
      have hs : Ieee.single.signWeight = 2147483648 := rfl
      unfold Ieee.Format.read
      simp only [hbi, hi, hs]
      rw [if_neg (by omega), if_neg (by omega), if_neg (by omega)]
      rfl
    · exact h1

theorem head_plain {m : M} (h : okI m = true) {c : Nat} (hc : c < 64) (hh : hasB m.wide m.high c = true) : plain (m.h c) = true := by
  unfold okI fieldsI at h
  simp only [Bool.and_eq_true] at h
  have h3 := h.1.2.2
  unfold fieldTo at h3
  have := List.all_eq_true.1 h3 c (List.mem_range.2 hc)
  rw [hh] at this
  exact this

theorem signed_cmp (a b : Int) : compare b a = (compare a b).swap := by
  rcases Int.lt_trichotomy a b with h | h | h
  · rw [Int.compare_eq_lt.2 h, Int.compare_eq_gt.2 h]; rfl
  · subst h; simp
  · rw [Int.compare_eq_gt.2 h, Int.compare_eq_lt.2 h]; rfl
theorem order_swap (d e : Ieee.Datum) : e.order d = (d.order e).map Ordering.swap := by
  cases d with
  | nan s t => cases e <;> rfl
  | infinity s => cases e with
    | nan => rfl
    | infinity t => cases s <;> cases t <;> rfl
    | number t n j => cases s <;> rfl
  | number s m i => cases e with
    | nan => rfl
    | infinity t => cases t <;> rfl
    | number t n j =>
      simp only [Ieee.Datum.order, Option.map_some]
      rw [Int.min_comm j i, signed_cmp]
theorem ford_swap (x y : F) : ford y x = (ford x y).map Ordering.swap := by
  cases x with
  | none => cases y <;> rfl
  | some a => cases y with
    | none => rfl
    | some b => exact order_swap _ _
end Go.Proofs.Ytfcphfdfpjmgiaa

namespace Go.Proofs.Ytfcphfdfpjmgiaa
open Go.RowKit

theorem pow_le_of {a b : Nat} (h : 2 ^ a ≤ 2 ^ b) : a ≤ b := by
  rcases Nat.lt_or_ge b a with h1 | h1
  · have := Nat.pow_lt_pow_right (a := 2) (by decide) h1; omega
  · exact h1

/-- Whether it is up to 2^20 in size: what the orders say. -/
theorem plain_le {x : F} (h : plain x = true) : Le x 20 := by
  obtain ⟨b, s, m, e, rfl, hd⟩ := plain_num h
  have he : -149 ≤ e := by
    rcases read_single b with ⟨s', m', e', h1, h2, h3, h4⟩ | ⟨s', h1⟩ | ⟨s', t', h1⟩
    · rw [hd] at h1; cases h1; exact h3
    · rw [hd] at h1; cases h1
    · rw [hd] at h1; cases h1
  refine ⟨b, s, m, e, rfl, hd, he, ?_⟩
  by_cases h0 : m = 0
  · exact .inl h0
  · refine .inr ?_
    unfold plain at h
    simp only [Bool.and_eq_true] at h
    obtain ⟨h1, h2⟩ := h
    have e1 : Ieee.single.read 3380609024 = .number true 8388608 (-3) := by decide
    have e2 : Ieee.single.read 1233125376 = .number false 8388608 (-3) := by decide
    have o1 : ford (some b) (some 3380609024) = some (compare (Ieee.signed s m (e - min e (-3)).toNat) (Ieee.signed true 8388608 (-3 - min e (-3)).toNat)) := by
      show (Ieee.single.read b).order (Ieee.single.read 3380609024) = _
      rw [hd, e1]; rfl
    have o2 : ford (some b) (some 1233125376) = some (compare (Ieee.signed s m (e - min e (-3)).toNat) (Ieee.signed false 8388608 (-3 - min e (-3)).toNat)) := by
      show (Ieee.single.read b).order (Ieee.single.read 1233125376) = _
      rw [hd, e2]; rfl
    generalize hB : min e (-3) = B at o1 o2
    have hN : (8388608 : Nat) <<< (-3 - B).toNat = 2 ^ (23 + (-3 - B).toNat) := by rw [Nat.shiftLeft_eq, Nat.pow_add]
    have hM : 2 ^ (m.log2 + (e - B).toNat) ≤ m <<< (e - B).toNat := by
      rw [Nat.pow_add, Nat.shiftLeft_eq]; exact Nat.mul_le_mul_right _ (Nat.log2_self_le h0)
    have key : m <<< (e - B).toNat ≤ (8388608 : Nat) <<< (-3 - B).toNat := by
      unfold fge fgt feq at h1
      unfold fle flt feq at h2
      rw [o1] at h1
      rw [o2] at h2
      unfold Ieee.signed at h1 h2
      generalize m <<< (e - B).toNat = P at *
      generalize (8388608 : Nat) <<< (-3 - B).toNat = Q at *
      cases s
      · rcases Int.lt_trichotomy (P : Int) (Q : Int) with h | h | h
        · omega
        · omega
        · rw [if_neg (by simp), if_neg (by simp), Int.compare_eq_gt.2 h] at h2
          simp at h2
      · rcases Int.lt_trichotomy (-(P : Int)) (-(Q : Int)) with h | h | h
        · rw [if_pos rfl, if_pos rfl, Int.compare_eq_lt.2 h] at h1
          simp at h1
        · omega
        · omega
    rw [hN] at key
    have := pow_le_of (Nat.le_trans hM key)
    unfold lg
    omega

theorem pos_of {x : F} (h : fgt x (some 0) = true) {b : Nat} {s : Bool} {m : Nat} {e : Int} (hx : x = some b) (hd : Ieee.single.read b = .number s m e) (he : -149 ≤ e) : s = false ∧ m ≠ 0 := by
  subst hx
  have ho : ford (some b) (some 0) = some (compare (Ieee.signed s m (e + 149).toNat) 0) := by
    show (Ieee.single.read b).order (Ieee.single.read 0) = _
    rw [hd, read0]
    simp only [Ieee.Datum.order]
    have e1 : min e (-149) = -149 := by omega
    rw [e1, show (-149 - -149 : Int) = 0 by omega, show e - -149 = e + 149 by omega]
    rfl
  unfold fgt at h
  rw [ho] at h
  have hgt : compare (Ieee.signed s m (e + 149).toNat) 0 = .gt := by simpa using h
  have h2 := Int.compare_eq_gt.1 hgt
  unfold Ieee.signed at h2
  constructor
  · cases s
    · rfl
    · rw [if_pos rfl] at h2
      generalize m <<< (e + 149).toNat = P at h2
      omega
  · rintro rfl
    rw [Nat.zero_shiftLeft] at h2
    cases s <;> simp at h2

theorem le_zero (k : Int) : Le (some 0) k := ⟨0, false, 0, -149, rfl, read0, by omega, .inl rfl⟩

theorem joint_le {a b : F} (ha : plain a = true) (hb : plain b = true) : Le (joint a b) 26 := by
  unfold joint
  split
  · rename_i h
    simp only [Bool.and_eq_true] at h
    obtain ⟨h1, h2⟩ := h
    have la := plain_le ha
    have lb := plain_le hb
    obtain ⟨p, s, m, e, rfl, hp, hpe, hpm⟩ := la
    obtain ⟨q, t, n, f, rfl, hq, hqf, hqn⟩ := lb
    obtain ⟨rfl, hm0⟩ := pos_of h1 rfl hp hpe
    obtain ⟨rfl, hn0⟩ := pos_of h2 rfl hq hqf
    have hln := hqn.resolve_left hn0
    have hlow : -149 ≤ lg n f := by unfold lg; omega
    have A : Le (some p) 20 := ⟨p, false, m, e, rfl, hp, hpe, hpm⟩
    have B : Le (some q) (lg n f) := ⟨q, false, n, f, rfl, hq, hqf, .inr (Int.le_refl _)⟩
    have C : Le (fmul (some p) (some q)) (22 + lg n f) := (fmul_le A B (by omega)).mono (by omega)
    have e2 : Ieee.single.read 1073741824 = .number false 8388608 (-22) := by decide
    have D : Le (some 1073741824) 1 := ⟨_, false, _, _, rfl, e2, by omega, .inr (by decide)⟩
    have E : Le (fmul (some 1073741824) (fmul (some p) (some q))) (25 + lg n f) := (fmul_le D C (by omega)).mono (by omega)
    have G : Ge (fadd (some p) (some q)) (lg n f) := fadd_ge (i := 20) (j := lg n f) A ⟨p, m, e, rfl, hp⟩ ⟨q, n, f, rfl, hq, hqf, hn0, Int.le_refl _⟩ (B.mono hln) (by omega) (Int.le_refl _) hlow
    exact (fdiv_le E G (by omega)).mono (by omega)
  · exact le_zero _

theorem fin_le {x : F} {k : Int} (h : Le x k) : fin x = true := by
  obtain ⟨b, s, m, e, rfl, hd, he, _⟩ := h
  have hz : fsub (some b) (some b) = some 0 := by
    show ((Ieee.single.read b).sum (Ieee.single.read b).opposite).map Ieee.single.write = _
    rw [hd]
    have ht : Ieee.signed s m (e - min e e).toNat + Ieee.signed (!s) m (e - min e e).toNat = 0 := by
      unfold Ieee.signed; generalize m <<< (e - min e e).toNat = M; cases s <;> simp <;> omega
    simp only [Ieee.Datum.opposite, Ieee.Datum.sum, ht, Option.map_some]
    have : (s && !s) = false := by cases s <;> rfl
    rw [if_pos trivial, this]
    show some (Ieee.single.nearest false 0 _) = _
    unfold Ieee.Format.nearest
    rw [if_pos (by rfl)]; rfl
  unfold fin
  rw [hz]; decide

theorem conduct_plain {m : M} (h : okI m = true) {c : Nat} (hc : c < 64) (hh : hasB m.wide m.high c = true) : plain (m.c c) = true := by
  unfold okI fieldsI at h
  simp only [Bool.and_eq_true] at h
  have h3 := h.1.2.1.1
  unfold fieldTo at h3
  have := List.all_eq_true.1 h3 c (List.mem_range.2 hc)
  rw [hh] at this
  have h4 : amount (m.c c) = true := this
  unfold amount at h4
  simp only [Bool.and_eq_true] at h4
  exact h4.1

/-- The cell beside a cell is a cell. -/
theorem beside_has {W H : Int} {k s n : Nat} (hk : k < 64) (hW : W ≤ 8) (hH : H ≤ 8) (h : beside W H k s = n) : n < 64 ∧ hasB W H n = true := by
  unfold beside besideXY at h
  simp only [] at h
  unfold hasB
  simp only [Bool.and_eq_true, decide_eq_true_eq]
  split at h <;> split at h <;> first | omega | (split at h <;> first | omega | (split at h <;> omega))

theorem flow_fin {m : M} (h : okI m = true) {k s : Nat} (hk : k < 64) (hh : hasB m.wide m.high k = true) : fin (flow m k s) = true := by
  have hsz := sized_of h
  unfold flow
  split
  · exact fin_le (le_zero 0)
  · rename_i hn
    obtain ⟨n, hn2⟩ : ∃ n : Nat, beside m.wide m.high k s = n := ⟨(beside m.wide m.high k s).toNat, by omega⟩
    obtain ⟨hnl, hnh⟩ := beside_has hk hsz.1.2 hsz.2.2 hn2
    rw [hn2, Int.toNat_natCast]
    have J := joint_le (conduct_plain h hk hh) (conduct_plain h hnl hnh)
    have D : Le (fsub (m.h k) (m.h n)) 22 := (fsub_le (k := 20) (plain_le (head_plain h hk hh)) (plain_le (head_plain h hnl hnh)) (Int.le_refl _) (Int.le_refl _) (by omega)).mono (by omega)
    exact fin_le (fmul_le J D (by omega))
end Go.Proofs.Ytfcphfdfpjmgiaa

namespace Go.Proofs.Ytfcphfdfpjmgiaa
open Go.RowKit

theorem signed_add (s : Bool) (m u d : Nat) : Ieee.signed s m (u + d) = Ieee.signed s m u * 2 ^ d := by
  unfold Ieee.signed
  rw [Nat.shiftLeft_add, Nat.shiftLeft_eq (m <<< u) d]
  generalize m <<< u = M
  cases s
  · simp
  · simp [Int.neg_mul]
theorem compare_mul (a b p : Int) (hp : 0 < p) : compare (a * p) (b * p) = compare a b := by
  rcases Int.lt_trichotomy a b with h | h | h
  · rw [Int.compare_eq_lt.2 h, Int.compare_eq_lt.2 (Int.mul_lt_mul_of_pos_right h hp)]
  · subst h; simp
  · rw [Int.compare_eq_gt.2 h, Int.compare_eq_gt.2 (Int.mul_lt_mul_of_pos_right h hp)]

/-- A finite number's size in the least units. -/
def Val (x : F) (v : Int) : Prop := ∃ b s m e, x = some b ∧ Ieee.single.read b = .number s m e ∧ -149 ≤ e ∧ v = Ieee.signed s m (e + 149).toNat
theorem ford_val {x y : F} {v w : Int} (hx : Val x v) (hy : Val y w) : ford x y = some (compare v w) := by
  obtain ⟨a, s, m, e, rfl, ha, he, rfl⟩ := hx
  obtain ⟨b, t, n, f, rfl, hb, hf, rfl⟩ := hy
  show (Ieee.single.read a).order (Ieee.single.read b) = _
  rw [ha, hb]
  simp only [Ieee.Datum.order, Option.some.injEq]
  generalize hB : min e f = B
  have e1 : (e + 149).toNat = (e - B).toNat + (B + 149).toNat := by omega
  have e2 : (f + 149).toNat = (f - B).toNat + (B + 149).toNat := by omega
  rw [e1, e2, signed_add, signed_add, compare_mul _ _ _ (Int.pow_pos (by decide))]
theorem val_zero : Val (some 0) 0 := ⟨0, false, 0, -149, rfl, read0, by omega, rfl⟩
theorem Le.val {x : F} {k : Int} (h : Le x k) : ∃ v, Val x v := by
  obtain ⟨b, s, m, e, h1, h2, h3, _⟩ := h
  exact ⟨_, b, s, m, e, h1, h2, h3, rfl⟩
theorem fgt_val {x y : F} {v w : Int} (hx : Val x v) (hy : Val y w) : fgt x y = decide (w < v) := by
  unfold fgt
  rw [ford_val hx hy]
  rcases Int.lt_trichotomy v w with h | h | h
  · rw [Int.compare_eq_lt.2 h, decide_eq_false (by omega)]; rfl
  · subst h; simp
  · rw [Int.compare_eq_gt.2 h, decide_eq_true h]; rfl
end Go.Proofs.Ytfcphfdfpjmgiaa

namespace Go.Proofs.Ytfcphfdfpjmgiaa
open Go.RowKit

theorem even_cut (s : Bool) (n k : Nat) : Ieee.Toward.even.cut s n k = n / 2 ^ min k (n.log2 + 2) + (decide (2 ^ min k (n.log2 + 2) < 2 * (n % 2 ^ min k (n.log2 + 2))) || 2 ^ min k (n.log2 + 2) == 2 * (n % 2 ^ min k (n.log2 + 2)) && n / 2 ^ min k (n.log2 + 2) % 2 == 1).toNat := by
  unfold Ieee.Toward.cut
  simp only [Nat.one_shiftLeft]

theorem cut_shl (s : Bool) (n d k : Nat) (h : n ≠ 0) : Ieee.Toward.even.cut s (n <<< d) (k + d) = Ieee.Toward.even.cut s n k := by
  rw [even_cut, even_cut, log2_shl n d h]
  have e : min (k + d) (n.log2 + d + 2) = min k (n.log2 + 2) + d := by omega
  rw [e]
  generalize min k (n.log2 + 2) = g
  have hp : 0 < 2 ^ d := Nat.two_pow_pos d
  have e1 : n <<< d / 2 ^ (g + d) = n / 2 ^ g := by rw [Nat.shiftLeft_eq, Nat.pow_add]; exact Nat.mul_div_mul_right _ _ hp
  have e2 : n <<< d % 2 ^ (g + d) = n % 2 ^ g * 2 ^ d := by rw [Nat.shiftLeft_eq, Nat.pow_add]; exact Nat.mul_mod_mul_right _ _ _
  rw [e1, e2, Nat.pow_add]
  generalize n % 2 ^ g = r
  generalize 2 ^ g = G
  generalize 2 ^ d = D at hp
  have e3 : decide (G * D < 2 * (r * D)) = decide (G < 2 * r) := by
    rw [← Nat.mul_assoc]
    by_cases h : G < 2 * r
    · rw [decide_eq_true h, decide_eq_true (Nat.mul_lt_mul_of_pos_right h hp)]
    · rw [decide_eq_false h, decide_eq_false]
      intro h2
      exact h (Nat.lt_of_mul_lt_mul_right h2)
  have e4 : (G * D == 2 * (r * D)) = (G == 2 * r) := by
    rw [← Nat.mul_assoc]
    by_cases h : G = 2 * r
    · subst h; simp
    · have h2 : ¬ G * D = 2 * r * D := fun e => h (Nat.eq_of_mul_eq_mul_right hp e)
      rw [beq_eq_false_iff_ne.2 h, beq_eq_false_iff_ne.2 h2]
  rw [e3, e4]

/-- A number in other digits is rounded alike. -/
theorem nearest_shl (s : Bool) (N d : Nat) (e : Int) : Ieee.single.nearest s (N <<< d) (e - d) = Ieee.single.nearest s N e := by
  by_cases h0 : N = 0
  · subst h0; rw [Nat.zero_shiftLeft]; unfold Ieee.Format.nearest; rw [if_pos rfl, if_pos rfl]
  · have hne : N <<< d ≠ 0 := by rw [Nat.shiftLeft_eq]; exact Nat.mul_ne_zero h0 (Nat.pos_iff_ne_zero.1 (Nat.two_pow_pos d))
    unfold Ieee.Format.nearest
    rw [if_neg h0, if_neg hne]
    simp only [log2_shl N d h0]
    have e1 : e - (d : Int) + ((N.log2 + d : Nat) : Int) - (Ieee.single.fractionBits : Int) = e + (N.log2 : Int) - (Ieee.single.fractionBits : Int) := by omega
    rw [e1]
    generalize max (e + (N.log2 : Int) - (Ieee.single.fractionBits : Int)) Ieee.single.leastPlace = last
    have hc : Ieee.Toward.even.cut s (N <<< d <<< (e - d - last).toNat) (last - (e - d)).toNat = Ieee.Toward.even.cut s (N <<< (e - last).toNat) (last - e).toNat := by
      rcases Int.lt_or_le e last with h | h
      · rw [show (e - d - last).toNat = 0 by omega, show (e - last).toNat = 0 by omega, show (last - (e - d)).toNat = (last - e).toNat + d by omega]
        exact cut_shl s N d _ h0
      · rcases Int.lt_or_le (e - d) last with h2 | h2
        · rw [show (e - d - last).toNat = 0 by omega, show (last - e).toNat = 0 by omega]
          have h3 : N <<< d = N <<< (e - last).toNat <<< (last - (e - d)).toNat := by rw [← Nat.shiftLeft_add]; congr 1; omega
          have h4 : N <<< (e - last).toNat ≠ 0 := by rw [Nat.shiftLeft_eq]; exact Nat.mul_ne_zero h0 (Nat.pos_iff_ne_zero.1 (Nat.two_pow_pos _))
          rw [Nat.shiftLeft_zero, h3, cut_exact s _ _ h4, cut_zero]
        · rw [show (last - (e - d)).toNat = 0 by omega, show (last - e).toNat = 0 by omega, ← Nat.shiftLeft_add, show d + (e - d - last).toNat = (e - last).toNat by omega]
    rw [hc]

/-- The digits that a finite number is read as. -/
theorem read_canon {b : Nat} {s : Bool} {m : Nat} {e : Int} (h : Ieee.single.read b = .number s m e) : -149 ≤ e ∧ ((e = -149 ∧ m < 8388608) ∨ (8388608 ≤ m ∧ m < 16777216)) ∧ (e + 149).toNat * 8388608 + m = b % 2147483648 ∧ b % 2147483648 < 2139095040 := by
  by_cases hb : b % 2147483648 < 2139095040
  · obtain ⟨m', e', h1, h2, h3, h4⟩ := read_rung b hb
    rw [h] at h1
    cases h1
    exact ⟨h3, h4, h2, hb⟩
  · exfalso
    have hbn : Ieee.single.binade = 8388608 := rfl
    have hi : Ieee.single.infRung = 2139095040 := rfl
    have hs : Ieee.single.signWeight = 2147483648 := rfl
    unfold Ieee.Format.read at h
    simp only [hbn, hi, hs] at h
    rw [if_neg (by omega), if_neg (by omega)] at h
    split at h <;> cases h

/-- The number of a whole number. -/
def ofI (n : Int) : F := some (Ieee.single.nearest (n < 0) n.natAbs 0)

theorem word_mod (s : Bool) {r : Nat} (h : r < 2147483648) : Ieee.single.word s r % 2147483648 = r ∧ (Ieee.single.word s r / 2147483648 % 2 == 1) = s := by
  have hs : Ieee.single.signWeight = 2147483648 := rfl
  unfold Ieee.Format.word
  rw [hs]
  cases s
  · rw [if_neg (by decide)]
    refine ⟨Nat.mod_eq_of_lt h, ?_⟩
    rw [Nat.div_eq_of_lt h]; rfl
  · rw [if_pos rfl]
    refine ⟨by rw [Nat.add_mod_left]; exact Nat.mod_eq_of_lt h, ?_⟩
    have : (2147483648 + r) / 2147483648 = 1 := by omega
    rw [this]; rfl

/-- Digits of the format are read as they were written. -/
theorem read_nearest (s : Bool) {m : Nat} {e : Int} (he : -149 ≤ e) (h2 : e ≤ 104) (hm : (e = -149 ∧ m < 8388608) ∨ (8388608 ≤ m ∧ m < 16777216)) : Ieee.single.read (Ieee.single.nearest s m e) = .number s m e := by
  have hr : (e + 149).toNat * 8388608 + m < 2139095040 := by
    rcases hm with ⟨h, h3⟩ | ⟨_, h3⟩
    · subst h; simp; omega
    · have : (e + 149).toNat ≤ 253 := by omega
      omega
  have h := nearest_same s m 0 _ e rfl hr he hm
  rw [Nat.shiftLeft_zero, show e - ((0 : Nat) : Int) = e by omega] at h
  rw [h]
  obtain ⟨w1, w2⟩ := word_mod s (r := (e + 149).toNat * 8388608 + m) (by omega)
  obtain ⟨m', e', r1, r2, r3, r4⟩ := read_rung (Ieee.single.word s ((e + 149).toNat * 8388608 + m)) (by omega)
  rw [r1, w2]
  rw [w1] at r2
  have : e' = e ∧ m' = m := by
    rcases hm with ⟨a1, a2⟩ | ⟨a1, a2⟩ <;> rcases r4 with ⟨b1, b2⟩ | ⟨b1, b2⟩ <;> omega
  rw [this.1, this.2]

/-- A whole number with fewer than 25 digits is read as it is. -/
theorem ofI_read (n : Int) (h : n.natAbs < 16777216) : ∃ b j : Nat, ofI n = some b ∧ Ieee.single.read b = .number (n < 0) (n.natAbs <<< j) (0 - (j : Int)) ∧ j ≤ 149 := by
  by_cases h0 : n.natAbs = 0
  · refine ⟨_, 149, rfl, ?_, Nat.le_refl _⟩
    rw [h0, Nat.zero_shiftLeft]
    exact nearest_zero _ _
  · have hl : n.natAbs.log2 ≤ 23 := by have := (Nat.log2_lt h0 (k := 24)).2 (by omega); omega
    have h1 : 2 ^ n.natAbs.log2 ≤ n.natAbs := Nat.log2_self_le h0
    have h2 : n.natAbs < 2 ^ (n.natAbs.log2 + 1) := Nat.lt_log2_self
    refine ⟨_, 23 - n.natAbs.log2, rfl, ?_, by omega⟩
    rw [← nearest_shl (decide (n < 0)) n.natAbs (23 - n.natAbs.log2) 0]
    refine read_nearest _ (by omega) (by omega) (.inr ?_)
    rw [Nat.shiftLeft_eq]
    constructor
    · calc 8388608 = 2 ^ n.natAbs.log2 * 2 ^ (23 - n.natAbs.log2) := by rw [← Nat.pow_add, show n.natAbs.log2 + (23 - n.natAbs.log2) = 23 by omega]
        _ ≤ _ := Nat.mul_le_mul_right _ h1
    · calc _ < 2 ^ (n.natAbs.log2 + 1) * 2 ^ (23 - n.natAbs.log2) := Nat.mul_lt_mul_of_pos_right h2 (Nat.two_pow_pos _)
        _ = 16777216 := by rw [← Nat.pow_add, show n.natAbs.log2 + 1 + (23 - n.natAbs.log2) = 24 by omega]

theorem ofI_sq (n : Int) (h : n.natAbs < 16777216) : fmul (ofI n) (ofI n) = ofI (n * n) := by
  obtain ⟨b, j, hb, hr, _⟩ := ofI_read n h
  rw [hb]
  show ((Ieee.single.read b).product (Ieee.single.read b)).map Ieee.single.write = _
  rw [hr]
  simp only [Ieee.Datum.product, Option.map_some, Ieee.Format.write]
  have e1 : (decide (n < 0) ^^ decide (n < 0)) = decide (n * n < 0) := by
    have h2 : 0 ≤ n * n := by rcases Int.le_total 0 n with h | h; exact Int.mul_nonneg h h; exact Int.mul_nonneg_of_nonpos_of_nonpos h h
    rw [Bool.xor_self, decide_eq_false (by omega)]
  have e2 : n.natAbs <<< j * n.natAbs <<< j = (n * n).natAbs <<< (j + j) := by
    rw [Int.natAbs_mul, Nat.shiftLeft_eq, Nat.shiftLeft_eq, Nat.pow_add]
    rw [Nat.mul_assoc, Nat.mul_comm (2 ^ j), Nat.mul_assoc, Nat.mul_assoc]
  rw [e1, e2, show (0 - (j : Int) + (0 - (j : Int))) = 0 - ((j + j : Nat) : Int) by omega, nearest_shl]
  rfl

theorem ofI_add (p q : Nat) (hp : p < 16777216) (hq : q < 16777216) : fadd (ofI p) (ofI q) = ofI ((p : Int) + q) := by
  obtain ⟨a, i, ha, ra, _⟩ := ofI_read p (by omega)
  obtain ⟨b, j, hb, rb, _⟩ := ofI_read q (by omega)
  rw [ha, hb]
  show ((Ieee.single.read a).sum (Ieee.single.read b)).map Ieee.single.write = _
  rw [ra, rb]
  have s1 : decide ((p : Int) < 0) = false := decide_eq_false (by omega)
  have s2 : decide ((q : Int) < 0) = false := decide_eq_false (by omega)
  have s3 : decide ((p : Int) + q < 0) = false := decide_eq_false (by omega)
  rw [s1, s2]
  have n1 : (p : Int).natAbs = p := by omega
  have n2 : (q : Int).natAbs = q := by omega
  rw [n1, n2]
  have key : ∀ k : Nat, i ≤ k → j ≤ k → min (0 - (i : Int)) (0 - (j : Int)) = 0 - (k : Int) → Option.map Ieee.single.write ((Ieee.Datum.number false (p <<< i) (0 - (i : Int))).sum (.number false (q <<< j) (0 - (j : Int)))) = ofI ((p : Int) + q) := by
    intro k hi hj hk
    simp only [Ieee.Datum.sum, Option.map_some, hk, Ieee.Format.write]
    have e1 : (0 - (i : Int) - (0 - (k : Int))).toNat = k - i := by omega
    have e2 : (0 - (j : Int) - (0 - (k : Int))).toNat = k - j := by omega
    rw [e1, e2]
    have e3 : Ieee.signed false (p <<< i) (k - i) + Ieee.signed false (q <<< j) (k - j) = (((p + q) <<< k : Nat) : Int) := by
      unfold Ieee.signed
      rw [← Nat.shiftLeft_add, ← Nat.shiftLeft_add, show i + (k - i) = k by omega, show j + (k - j) = k by omega]
      simp only [Nat.shiftLeft_eq]
      rw [Nat.add_mul]
      simp
    rw [e3, Int.natAbs_natCast]
    have e4 : (if (((p + q) <<< k : Nat) : Int) = 0 then false && false else decide ((((p + q) <<< k : Nat) : Int) < 0)) = false := by
      generalize (p + q) <<< k = N
      split
      · rfl
      · exact decide_eq_false (by omega)
    rw [e4, nearest_shl]
    unfold ofI
    rw [s3, show ((p : Int) + q).natAbs = p + q by omega]
  rcases Nat.le_total i j with h | h
  · exact key j h (Nat.le_refl _) (by omega)
  · exact key i (Nat.le_refl _) h (by omega)

theorem ofI_zero (n : Nat) (h : n < 16777216) : feq (ofI n) (some 0) = decide (n = 0) := by
  obtain ⟨b, j, hb, hr, _⟩ := ofI_read n (by omega)
  have ho : ford (some b) (some 0) = (Ieee.single.read b).order (Ieee.single.read 0) := rfl
  unfold feq
  rw [hb, ho, hr, read0]
  simp only [Ieee.Datum.order]
  have s1 : decide ((n : Int) < 0) = false := decide_eq_false (by omega)
  rw [s1]
  by_cases h0 : n = 0
  · subst h0
    simp [Ieee.signed]
  · rw [decide_eq_false h0]
    have : 0 < (((n : Int).natAbs <<< j) <<< (0 - (j : Int) - min (0 - (j : Int)) (-149)).toNat) := by
      rw [Nat.shiftLeft_eq, Nat.shiftLeft_eq]
      exact Nat.mul_pos (Nat.mul_pos (by omega) (Nat.two_pow_pos _)) (Nat.two_pow_pos _)
    generalize (((n : Int).natAbs <<< j) <<< (0 - (j : Int) - min (0 - (j : Int)) (-149)).toNat) = M at this
    unfold Ieee.signed
    simp
    exact h0

/-- A normal positive number. -/
def Nm (x : F) (m : Nat) (e : Int) : Prop := ∃ b, x = some b ∧ Ieee.single.read b = .number false m e ∧ 8388608 ≤ m ∧ m < 16777216 ∧ -149 ≤ e
theorem read_two : Ieee.single.read 1073741824 = .number false 8388608 (-22) := by decide
theorem nm_double {x : F} {m : Nat} {e : Int} (h : Nm x m e) (he : e < 104) : Nm (fmul x (some 1073741824)) m (e + 1) := by
  obtain ⟨b, rfl, hr, h1, h2, h3⟩ := h
  refine ⟨Ieee.single.nearest false m (e + 1), ?_, read_nearest _ (by omega) (by omega) (.inr ⟨h1, h2⟩), h1, h2, by omega⟩
  show ((Ieee.single.read b).product (Ieee.single.read 1073741824)).map Ieee.single.write = _
  rw [hr, read_two]
  simp only [Ieee.Datum.product, Option.map_some, Ieee.Format.write, Option.some.injEq, Bool.xor_false]
  rw [← nearest_shl false m 23 (e + 1), Nat.shiftLeft_eq]
  congr 1
  omega
end Go.Proofs.Ytfcphfdfpjmgiaa

namespace Go.Proofs.Ytfcphfdfpjmgiaa
open Go.RowKit

theorem val_of {b : Nat} {s : Bool} {m : Nat} {e : Int} (h : Ieee.single.read b = .number s m e) (he : -149 ≤ e) : Val (some b) (Ieee.signed s m (e + 149).toNat) := ⟨b, s, m, e, rfl, h, he, rfl⟩
theorem flt_val {x y : F} {v w : Int} (hx : Val x v) (hy : Val y w) : flt x y = decide (v < w) := by
  unfold flt
  rw [ford_val hx hy]
  rcases Int.lt_trichotomy v w with h | h | h
  · rw [Int.compare_eq_lt.2 h, decide_eq_true h]; rfl
  · subst h; simp
  · rw [Int.compare_eq_gt.2 h, decide_eq_false (by omega)]; rfl
theorem feq_val {x y : F} {v w : Int} (hx : Val x v) (hy : Val y w) : feq x y = decide (v = w) := by
  unfold feq
  rw [ford_val hx hy]
  rcases Int.lt_trichotomy v w with h | h | h
  · rw [Int.compare_eq_lt.2 h, decide_eq_false (by omega)]; rfl
  · subst h; simp
  · rw [Int.compare_eq_gt.2 h, decide_eq_false (by omega)]; rfl
theorem fle_val {x y : F} {v w : Int} (hx : Val x v) (hy : Val y w) : fle x y = decide (v ≤ w) := by
  unfold fle
  rw [flt_val hx hy, feq_val hx hy, ← Bool.decide_or]
  exact decide_eq_decide.2 (by omega)
theorem fge_val {x y : F} {v w : Int} (hx : Val x v) (hy : Val y w) : fge x y = decide (w ≤ v) := by
  unfold fge
  rw [fgt_val hx hy, feq_val hx hy, ← Bool.decide_or]
  exact decide_eq_decide.2 (by omega)
theorem fb_ofI (n : Int) : fb (floatOfInt FloatKind.f32 n) = ofI n := by
  have h : floatOfInt FloatKind.f32 n = Ieee.single.write (.number (n < 0) n.natAbs 0) := rfl
  rw [h]
  unfold fb fbOf
  rw [write_num _ _ rfl]
  rfl
theorem Is.ofI (n : Int) : Is (floatOfInt FloatKind.f32 n) (ofI n) := fb_ofI n
theorem below_next {a w w' : World} (h : Below a.heap.size a w) (hb : Below w.heap.size w w') : Below a.heap.size a w' := h.trans (hb.mono h.size)
end Go.Proofs.Ytfcphfdfpjmgiaa

namespace Go.Proofs.Ytfcphfdfpjmgiaa
open Go.RowKit

theorem cut_eq (s : Bool) (n d : Nat) : Ieee.Toward.even.cut s n d = n / 2 ^ d + (decide (2 ^ d < 2 * (n % 2 ^ d)) || 2 ^ d == 2 * (n % 2 ^ d) && n / 2 ^ d % 2 == 1).toNat := by
  rw [even_cut]
  rcases Nat.lt_or_ge (n.log2 + 2) d with h | h
  · have e1 : min d (n.log2 + 2) = n.log2 + 2 := by omega
    rw [e1]
    have hn : n < 2 ^ (n.log2 + 1) := Nat.lt_log2_self
    have h2 : 2 * n < 2 ^ (n.log2 + 2) := by rw [Nat.pow_succ]; omega
    have h3 : 2 ^ (n.log2 + 2) ≤ 2 ^ d := Nat.pow_le_pow_right (by decide) (by omega)
    rw [Nat.div_eq_of_lt (by omega : n < 2 ^ d), Nat.div_eq_of_lt (by omega : n < 2 ^ (n.log2 + 2)), Nat.mod_eq_of_lt (by omega : n < 2 ^ d), Nat.mod_eq_of_lt (by omega : n < 2 ^ (n.log2 + 2))]
    rw [decide_eq_false (by omega), decide_eq_false (by omega)]
    simp
  · rw [show min d (n.log2 + 2) = d by omega]
theorem cut_near (s : Bool) (n d : Nat) : 2 * (Ieee.Toward.even.cut s n d * 2 ^ d) ≤ 2 * n + 2 ^ d ∧ 2 * n ≤ 2 * (Ieee.Toward.even.cut s n d * 2 ^ d) + 2 ^ d := by
  rw [cut_eq]
  have hd := Nat.div_add_mod n (2 ^ d)
  have hp : 0 < 2 ^ d := Nat.two_pow_pos d
  have hm := Nat.mod_lt n hp
  generalize n / 2 ^ d = q at hd
  generalize n % 2 ^ d = r at hd hm
  generalize 2 ^ d = D at hd hp hm
  rw [Nat.mul_comm] at hd
  by_cases h : (decide (D < 2 * r) || D == 2 * r && q % 2 == 1) = true
  · rw [h]
    have h2 : D ≤ 2 * r := by
      simp only [Bool.or_eq_true, Bool.and_eq_true, decide_eq_true_eq, beq_iff_eq] at h
      omega
    show 2 * ((q + 1) * D) ≤ _ ∧ _ ≤ 2 * ((q + 1) * D) + D
    rw [Nat.add_mul, Nat.one_mul]
    omega
  · rw [Bool.not_eq_true] at h
    rw [h]
    have h2 : 2 * r ≤ D := by
      simp only [Bool.or_eq_false_iff, decide_eq_false_iff_not] at h
      omega
    show 2 * ((q + 0) * D) ≤ _ ∧ _ ≤ 2 * ((q + 0) * D) + D
    rw [Nat.add_zero]
    omega
theorem cut_mono (s t : Bool) {n n' : Nat} (d : Nat) (h : n ≤ n') : Ieee.Toward.even.cut s n d ≤ Ieee.Toward.even.cut t n' d := by
  rw [cut_eq, cut_eq]
  have hp : 0 < 2 ^ d := Nat.two_pow_pos d
  have hq : n / 2 ^ d ≤ n' / 2 ^ d := Nat.div_le_div_right h
  have hd := Nat.div_add_mod n (2 ^ d)
  have hd' := Nat.div_add_mod n' (2 ^ d)
  have hb : ∀ b : Bool, b.toNat ≤ 1 := fun b => by cases b <;> decide
  by_cases he : n / 2 ^ d = n' / 2 ^ d
  · rw [he] at hd ⊢
    have hr : n % 2 ^ d ≤ n' % 2 ^ d := by omega
    generalize n' / 2 ^ d = q
    generalize n % 2 ^ d = r at hr
    generalize n' % 2 ^ d = r' at hr
    generalize 2 ^ d = D
    refine Nat.add_le_add_left ?_ q
    by_cases h1 : (decide (D < 2 * r) || D == 2 * r && q % 2 == 1) = true
    · have : (decide (D < 2 * r') || D == 2 * r' && q % 2 == 1) = true := by
        simp only [Bool.or_eq_true, Bool.and_eq_true, decide_eq_true_eq, beq_iff_eq] at h1 ⊢
        omega
      rw [h1, this]
      exact Nat.le_refl _
    · rw [Bool.not_eq_true] at h1
      rw [h1]; exact Nat.zero_le _
  · have := hb (decide (2 ^ d < 2 * (n % 2 ^ d)) || 2 ^ d == 2 * (n % 2 ^ d) && n / 2 ^ d % 2 == 1)
    omega
theorem cut_whole (s : Bool) (q d : Nat) : Ieee.Toward.even.cut s (q * 2 ^ d) d = q := by
  rw [cut_eq]
  have hp : 0 < 2 ^ d := Nat.two_pow_pos d
  rw [Nat.mul_div_cancel _ hp, Nat.mul_mod_left]
  rw [decide_eq_false (by omega), show (2 ^ d == 2 * 0) = false from beq_eq_false_iff_ne.2 (by omega)]
  rfl

/-- The places that fall away from 'P', of which 'b' do in any case. -/
def rndK (b P : Nat) : Nat := max (P.log2 - 23) b
/-- 'P / 2 ^ b', rounded: in units of the least number. -/
def rnd (b P : Nat) : Nat := Ieee.Toward.even.cut false P (rndK b P) * 2 ^ (rndK b P - b)
theorem rnd_zero (b : Nat) : rnd b 0 = 0 := by
  unfold rnd
  have := cut_whole false 0 (rndK b 0)
  rw [Nat.zero_mul] at this
  rw [this, Nat.zero_mul]
theorem log_mono {P Q : Nat} (h : P ≤ Q) : P.log2 ≤ Q.log2 := by
  by_cases h0 : P = 0
  · subst h0; exact Nat.zero_le _
  · exact (Nat.le_log2 (by omega)).2 (Nat.le_trans (Nat.log2_self_le h0) h)
theorem cut_top (s : Bool) (P k : Nat) (h : P.log2 - 23 ≤ k) : Ieee.Toward.even.cut s P k ≤ 16777216 := by
  have h1 : P ≤ 16777216 * 2 ^ k := by
    rw [show (16777216 : Nat) = 2 ^ 24 from rfl, ← Nat.pow_add]
    exact Nat.le_of_lt (Nat.lt_of_lt_of_le Nat.lt_log2_self (Nat.pow_le_pow_right (by decide) (by omega)))
  have := cut_mono s s k h1
  rwa [cut_whole] at this
theorem cut_low (s : Bool) (P k : Nat) (h : k + 23 ≤ P.log2) : 8388608 ≤ Ieee.Toward.even.cut s P k := by
  have h0 : P ≠ 0 := by
    intro h0; subst h0
    have : (0 : Nat).log2 = 0 := by decide
    omega
  have h1 : 8388608 * 2 ^ k ≤ P := by
    rw [show (8388608 : Nat) = 2 ^ 23 from rfl, ← Nat.pow_add]
    exact Nat.le_trans (Nat.pow_le_pow_right (by decide) (by omega)) (Nat.log2_self_le h0)
  have := cut_mono s s k h1
  rwa [cut_whole] at this
theorem rnd_mono (b : Nat) {P Q : Nat} (h : P ≤ Q) : rnd b P ≤ rnd b Q := by
  have hl := log_mono h
  unfold rnd
  by_cases he : rndK b P = rndK b Q
  · rw [he]
    exact Nat.mul_le_mul_right _ (cut_mono _ _ _ h)
  · unfold rndK at *
    have hk : max (P.log2 - 23) b < max (Q.log2 - 23) b := by omega
    have h1 := cut_top false P (max (P.log2 - 23) b) (by omega)
    have h2 := cut_low false Q (max (Q.log2 - 23) b) (by omega)
    refine Nat.le_trans (Nat.mul_le_mul_right _ h1) (Nat.le_trans ?_ (Nat.mul_le_mul_right _ h2))
    rw [show (16777216 : Nat) = 8388608 * 2 from rfl, Nat.mul_assoc]
    refine Nat.mul_le_mul_left _ ?_
    rw [Nat.mul_comm, ← Nat.pow_succ]
    exact Nat.pow_le_pow_right (by decide) (by omega)
theorem rnd_exact (b n j : Nat) (hn : n ≤ 16777216) (hj : b ≤ j) : rnd b (n * 2 ^ j) = n * 2 ^ (j - b) := by
  suffices ∀ n j, n < 16777216 → b ≤ j → rnd b (n * 2 ^ j) = n * 2 ^ (j - b) by
    rcases Nat.lt_or_ge n 16777216 with h | h
    · exact this n j h hj
    · have e : n = 8388608 * 2 := by omega
      subst e
      rw [Nat.mul_assoc, Nat.mul_comm 2, ← Nat.pow_succ, this 8388608 (j + 1) (by omega) (by omega), show j + 1 - b = (j - b) + 1 by omega, Nat.pow_succ]
      rw [Nat.mul_assoc, Nat.mul_comm 2]
  intro n j hn hj
  by_cases h0 : n = 0
  · subst h0; rw [Nat.zero_mul, Nat.zero_mul]; exact rnd_zero b
  · have hl : (n * 2 ^ j).log2 = n.log2 + j := by rw [← Nat.shiftLeft_eq]; exact log2_shl n j h0
    have hn2 : n.log2 < 24 := (Nat.log2_lt h0).2 hn
    unfold rnd
    have hk : rndK b (n * 2 ^ j) ≤ j := by unfold rndK; omega
    have hb : b ≤ rndK b (n * 2 ^ j) := by unfold rndK; omega
    generalize rndK b (n * 2 ^ j) = k at hk hb
    have e : n * 2 ^ j = n * 2 ^ (j - k) * 2 ^ k := by rw [Nat.mul_assoc, ← Nat.pow_add, show j - k + k = j by omega]
    rw [e, cut_whole, Nat.mul_assoc, ← Nat.pow_add, show j - k + (k - b) = j - b by omega]
theorem rnd_le {b P n j : Nat} (h : P ≤ n * 2 ^ (j + b)) (hn : n ≤ 16777216) : rnd b P ≤ n * 2 ^ j := by
  have := rnd_mono b h
  rw [rnd_exact b n (j + b) hn (by omega), show j + b - b = j by omega] at this
  exact this
theorem rnd_ge {b P n j : Nat} (h : n * 2 ^ (j + b) ≤ P) (hn : n ≤ 16777216) : n * 2 ^ j ≤ rnd b P := by
  have := rnd_mono b h
  rw [rnd_exact b n (j + b) hn (by omega), show j + b - b = j by omega] at this
  exact this
/-- How near: by a part in 2 ^ 24, or half a unit. -/
theorem rnd_near (b P : Nat) : 16777216 * (rnd b P * 2 ^ b) ≤ 16777216 * P + max P (2 ^ (b + 23)) ∧ 16777216 * P ≤ 16777216 * (rnd b P * 2 ^ b) + max P (2 ^ (b + 23)) := by
  obtain ⟨h1, h2⟩ := cut_near false P (rndK b P)
  have e : rnd b P * 2 ^ b = Ieee.Toward.even.cut false P (rndK b P) * 2 ^ (rndK b P) := by
    unfold rnd
    rw [Nat.mul_assoc, ← Nat.pow_add, show rndK b P - b + b = rndK b P by unfold rndK; omega]
  rw [e]
  generalize Ieee.Toward.even.cut false P (rndK b P) * 2 ^ (rndK b P) = C at h1 h2
  have h3 : 8388608 * 2 ^ (rndK b P) ≤ max P (2 ^ (b + 23)) := by
    rcases Nat.lt_or_ge b (P.log2 - 23) with h | h
    · have hk : rndK b P = P.log2 - 23 := by unfold rndK; omega
      rw [hk, show (8388608 : Nat) = 2 ^ 23 from rfl, ← Nat.pow_add, show 23 + (P.log2 - 23) = P.log2 by omega]
      have h0 : P ≠ 0 := by
        intro h0; subst h0
        have : (0 : Nat).log2 = 0 := by decide
        omega
      exact Nat.le_trans (Nat.log2_self_le h0) (Nat.le_max_left _ _)
    · have hk : rndK b P = b := by unfold rndK; omega
      rw [hk, show (8388608 : Nat) = 2 ^ 23 from rfl, ← Nat.pow_add, Nat.add_comm 23 b]
      exact Nat.le_max_right _ _
  omega
/-- A sum is nearer: with nothing to fall away it is exact. -/
theorem rnd_near0 (P : Nat) : 16777216 * rnd 0 P ≤ 16777216 * P + P ∧ 16777216 * P ≤ 16777216 * rnd 0 P + P := by
  rcases Nat.lt_or_ge P 16777216 with h | h
  · have := rnd_exact 0 P 0 (by omega) (Nat.le_refl _)
    rw [Nat.pow_zero, Nat.mul_one] at this
    rw [this]; omega
  · obtain ⟨h1, h2⟩ := rnd_near 0 P
    have : (2 : Nat) ^ (0 + 23) = 8388608 := rfl
    rw [Nat.pow_zero, Nat.mul_one, this] at h1 h2
    omega

theorem read_word_of (s : Bool) {r : Nat} (hr : r < 2139095040) : ∃ m e, Ieee.single.read (Ieee.single.word s r) = .number s m e ∧ (e + 149).toNat * 8388608 + m = r ∧ -149 ≤ e ∧ ((e = -149 ∧ m < 8388608) ∨ (8388608 ≤ m ∧ m < 16777216)) := by
  obtain ⟨h1, h2⟩ := word_mod s (r := r) (by omega)
  obtain ⟨m, e, h3, h4, h5, h6⟩ := read_rung (Ieee.single.word s r) (by omega)
  rw [h2] at h3
  exact ⟨m, e, h3, by omega, h5, h6⟩

theorem nearest_rnd (s : Bool) (b P : Nat) (h0 : P ≠ 0) (hl : P.log2 ≤ b + 275) :
    ∃ m e, Ieee.single.read (Ieee.single.nearest s P (-149 - (b : Int))) = .number s m e ∧ -149 ≤ e ∧ m * 2 ^ (e + 149).toNat = rnd b P := by
  have hf : Ieee.single.fractionBits = 23 := rfl
  have hb : Ieee.single.binade = 8388608 := rfl
  have hi : Ieee.single.infRung = 2139095040 := rfl
  have hll : Ieee.single.leastPlace = -149 := rfl
  have e0 : Ieee.single.nearest s P (-149 - (b : Int)) = Ieee.single.word s (min ((rndK b P - b) * 8388608 + Ieee.Toward.even.cut s P (rndK b P)) 2139095040) := by
    unfold Ieee.Format.nearest
    rw [if_neg h0]
    simp only [hf, hb, hi, hll]
    unfold rndK
    have e1 : (-149 - (b : Int) - max (-149 - (b : Int) + (P.log2 : Int) - ((23 : Nat) : Int)) (-149)).toNat = 0 := by omega
    have e2 : (max (-149 - (b : Int) + (P.log2 : Int) - ((23 : Nat) : Int)) (-149) - (-149 - (b : Int))).toNat = max (P.log2 - 23) b := by omega
    have e3 : (max (-149 - (b : Int) + (P.log2 : Int) - ((23 : Nat) : Int)) (-149) - -149).toNat = max (P.log2 - 23) b - b := by omega
    rw [e1, e2, e3, Nat.shiftLeft_zero]
  have hs : Ieee.Toward.even.cut s P (rndK b P) = Ieee.Toward.even.cut false P (rndK b P) := by rw [cut_eq, cut_eq]
  have hk1 := cut_top false P (rndK b P) (by unfold rndK; omega)
  have hk2 : b < rndK b P → 8388608 ≤ Ieee.Toward.even.cut false P (rndK b P) := fun h => cut_low false P _ (by unfold rndK at *; omega)
  have hkb : rndK b P - b ≤ 252 := by unfold rndK; omega
  have hkc : b ≤ rndK b P := by unfold rndK; omega
  rw [e0, hs]
  unfold rnd
  generalize rndK b P = k at *
  generalize Ieee.Toward.even.cut false P k = c at *
  rw [Nat.min_eq_left (by omega)]
  obtain ⟨m, e, h1, h2, h3, h4⟩ := read_word_of s (r := (k - b) * 8388608 + c) (by omega)
  refine ⟨m, e, h1, h3, ?_⟩
  by_cases hc : c = 16777216
  · have e5 : (e + 149).toNat = k - b + 1 ∧ m = 8388608 := by omega
    rw [e5.1, e5.2, hc, Nat.pow_succ]
    omega
  · by_cases hz : k - b = 0
    · rw [hz] at h2 ⊢
      have : (e + 149).toNat = 0 ∧ m = c := by omega
      rw [this.1, this.2]
    · have := hk2 (by omega)
      have : (e + 149).toNat = k - b ∧ m = c := by omega
      rw [this.1, this.2]

/-- A whole number, rounded. -/
def rz (b : Nat) (z : Int) : Int := if z < 0 then -((rnd b z.natAbs : Nat) : Int) else ((rnd b z.natAbs : Nat) : Int)
theorem rz_abs (b : Nat) (z : Int) : (rz b z).natAbs = rnd b z.natAbs := by unfold rz; split <;> omega
theorem rz_mono (b : Nat) {y z : Int} (h : y ≤ z) : rz b y ≤ rz b z := by
  unfold rz
  by_cases hy : y < 0
  · rw [if_pos hy]
    by_cases hz : z < 0
    · rw [if_pos hz]
      have := rnd_mono b (P := z.natAbs) (Q := y.natAbs) (by omega)
      omega
    · rw [if_neg hz]; omega
  · rw [if_neg hy, if_neg (by omega)]
    have := rnd_mono b (P := y.natAbs) (Q := z.natAbs) (by omega)
    omega
theorem rz_neg (b : Nat) (z : Int) : rz b (-z) = -rz b z := by
  unfold rz
  rw [Int.natAbs_neg]
  by_cases h0 : z = 0
  · subst h0
    have h1 : ¬ (-(0 : Int)) < 0 := by omega
    have h2 : ¬ ((0 : Int)) < 0 := by omega
    rw [if_neg h1, if_neg h2]
    have := rnd_zero b
    simp only [Int.natAbs_zero, this]; rfl
  · by_cases h : z < 0
    · rw [if_pos h, if_neg (by omega)]; omega
    · rw [if_neg h, if_pos (by omega)]
theorem rz_zero (b : Nat) : rz b 0 = 0 := by
  unfold rz
  rw [if_neg (by omega)]
  have := rnd_zero b
  simp only [Int.natAbs_zero, this]; rfl

theorem signed_eq (s : Bool) (m k : Nat) : Ieee.signed s m k = if s then -((m * 2 ^ k : Nat) : Int) else ((m * 2 ^ k : Nat) : Int) := by
  rw [← Nat.shiftLeft_eq]
  cases s <;> rfl
theorem write_val (s : Bool) (b P : Nat) (hl : P.log2 ≤ b + 275) : Val (some (Ieee.single.write (.number s P (-149 - (b : Int))))) (if s then -((rnd b P : Nat) : Int) else ((rnd b P : Nat) : Int)) := by
  by_cases h0 : P = 0
  · subst h0
    refine ⟨_, s, 0, -149, rfl, nearest_zero s _, by omega, ?_⟩
    rw [rnd_zero, signed_eq, Nat.zero_mul]
  · obtain ⟨m, e, h1, h2, h3⟩ := nearest_rnd s b P h0 hl
    refine ⟨_, s, m, e, rfl, h1, h2, ?_⟩
    rw [signed_eq, h3]

theorem add_val {x y : F} {v w : Int} (hx : Val x v) (hy : Val y w) (hl : (v + w).natAbs.log2 ≤ 275) : Val (fadd x y) (rz 0 (v + w)) := by
  obtain ⟨a, s, m, e, rfl, ha, he, rfl⟩ := hx
  obtain ⟨b, t, n, f, rfl, hb, hf, rfl⟩ := hy
  have h : fadd (some a) (some b) = some (Ieee.single.write (.number (if Ieee.signed s m (e - min e f).toNat + Ieee.signed t n (f - min e f).toNat = 0 then s && t else decide (Ieee.signed s m (e - min e f).toNat + Ieee.signed t n (f - min e f).toNat < 0)) (Ieee.signed s m (e - min e f).toNat + Ieee.signed t n (f - min e f).toNat).natAbs (min e f))) := by
    show ((Ieee.single.read a).sum (Ieee.single.read b)).map Ieee.single.write = _
    rw [ha, hb]; rfl
  rw [h]
  have hsum : Ieee.signed s m (e + 149).toNat + Ieee.signed t n (f + 149).toNat = (Ieee.signed s m (e - min e f).toNat + Ieee.signed t n (f - min e f).toNat) * 2 ^ (min e f + 149).toNat := by
    rw [Int.add_mul, ← signed_add, ← signed_add]
    congr 2 <;> omega
  rw [hsum] at hl ⊢
  generalize Ieee.signed s m (e - min e f).toNat + Ieee.signed t n (f - min e f).toNat = z at hl ⊢
  have hmin : -149 ≤ min e f := by omega
  generalize min e f = p at hmin hl ⊢
  have hk : ((z * 2 ^ (p + 149).toNat : Int)).natAbs = z.natAbs <<< (p + 149).toNat := by
    rw [Int.natAbs_mul, Nat.shiftLeft_eq]
    congr 1
  have hpos : (0 : Int) < 2 ^ (p + 149).toNat := by
    rw [show ((2 : Int) ^ (p + 149).toNat) = ((2 ^ (p + 149).toNat : Nat) : Int) by simp]
    exact Int.ofNat_lt.2 (Nat.two_pow_pos _)
  have hw : ∀ sg : Bool, Ieee.single.write (.number sg z.natAbs p) = Ieee.single.write (.number sg (z.natAbs <<< (p + 149).toNat) (-149 - ((0 : Nat) : Int))) := fun sg => by
    show Ieee.single.nearest _ _ _ = Ieee.single.nearest _ _ _
    have := nearest_shl sg z.natAbs (p + 149).toNat p
    rw [show (-149 - ((0 : Nat) : Int)) = p - ((p + 149).toNat : Int) by omega]
    exact this.symm
  rw [hw]
  rw [hk] at hl
  have := write_val (if z = 0 then s && t else decide (z < 0)) 0 (z.natAbs <<< (p + 149).toNat) (by omega)
  by_cases h0 : z = 0
  · subst h0
    rw [Int.zero_mul, rz_zero]
    rw [if_pos rfl] at this ⊢
    rw [show (0 : Int).natAbs <<< (p + 149).toNat = 0 from Nat.zero_shiftLeft _, rnd_zero] at this
    rw [show (0 : Int).natAbs <<< (p + 149).toNat = 0 from Nat.zero_shiftLeft _]
    cases hst : (s && t) <;> rw [hst] at this <;> simpa using this
  · rw [if_neg h0] at this ⊢
    unfold rz
    rw [hk]
    by_cases hz : z < 0
    · rw [decide_eq_true hz] at this ⊢
      rw [if_pos (Int.mul_neg_of_neg_of_pos hz hpos)]
      exact this
    · rw [decide_eq_false hz] at this ⊢
      rw [if_neg (by have := Int.mul_nonneg (Int.not_lt.1 hz) (Int.le_of_lt hpos); omega)]
      exact this
theorem val_opp {b : Nat} {v : Int} (h : Val (some b) v) : ∃ s m e, Ieee.single.read b = .number s m e ∧ -149 ≤ e ∧ v = Ieee.signed s m (e + 149).toNat := by
  obtain ⟨b', s, m, e, h1, h2, h3, h4⟩ := h
  cases h1
  exact ⟨s, m, e, h2, h3, h4⟩
theorem sub_val {x y : F} {v w : Int} (hx : Val x v) (hy : Val y w) (hl : (v - w).natAbs.log2 ≤ 275) : Val (fsub x y) (rz 0 (v - w)) := by
  obtain ⟨a, s, m, e, rfl, ha, he, rfl⟩ := hx
  obtain ⟨b, t, n, f, rfl, hb, hf, rfl⟩ := hy
  have h : fsub (some a) (some b) = some (Ieee.single.write (.number (if Ieee.signed s m (e - min e f).toNat + Ieee.signed (!t) n (f - min e f).toNat = 0 then s && !t else decide (Ieee.signed s m (e - min e f).toNat + Ieee.signed (!t) n (f - min e f).toNat < 0)) (Ieee.signed s m (e - min e f).toNat + Ieee.signed (!t) n (f - min e f).toNat).natAbs (min e f))) := by
    show ((Ieee.single.read a).sum (Ieee.single.read b).opposite).map Ieee.single.write = _
    rw [ha, hb]; rfl
  rw [h]
  have hneg : -Ieee.signed t n (f + 149).toNat = Ieee.signed (!t) n (f + 149).toNat := by
    rw [signed_eq, signed_eq]; cases t <;> simp
  have hsum : Ieee.signed s m (e + 149).toNat - Ieee.signed t n (f + 149).toNat = (Ieee.signed s m (e - min e f).toNat + Ieee.signed (!t) n (f - min e f).toNat) * 2 ^ (min e f + 149).toNat := by
    rw [Int.sub_eq_add_neg, hneg, Int.add_mul, ← signed_add, ← signed_add]
    congr 2 <;> omega
  rw [hsum] at hl ⊢
  generalize Ieee.signed s m (e - min e f).toNat + Ieee.signed (!t) n (f - min e f).toNat = z at hl ⊢
  have hmin : -149 ≤ min e f := by omega
  generalize min e f = p at hmin hl ⊢
  have hk : ((z * 2 ^ (p + 149).toNat : Int)).natAbs = z.natAbs <<< (p + 149).toNat := by
    rw [Int.natAbs_mul, Nat.shiftLeft_eq]
    congr 1
  have hpos : (0 : Int) < 2 ^ (p + 149).toNat := by
    rw [show ((2 : Int) ^ (p + 149).toNat) = ((2 ^ (p + 149).toNat : Nat) : Int) by simp]
    exact Int.ofNat_lt.2 (Nat.two_pow_pos _)
  have hw : ∀ sg : Bool, Ieee.single.write (.number sg z.natAbs p) = Ieee.single.write (.number sg (z.natAbs <<< (p + 149).toNat) (-149 - ((0 : Nat) : Int))) := fun sg => by
    show Ieee.single.nearest _ _ _ = Ieee.single.nearest _ _ _
    have := nearest_shl sg z.natAbs (p + 149).toNat p
    rw [show (-149 - ((0 : Nat) : Int)) = p - ((p + 149).toNat : Int) by omega]
    exact this.symm
  rw [hw]
  rw [hk] at hl
  have := write_val (if z = 0 then s && !t else decide (z < 0)) 0 (z.natAbs <<< (p + 149).toNat) (by omega)
  by_cases h0 : z = 0
  · subst h0
    rw [Int.zero_mul, rz_zero]
    rw [if_pos rfl] at this ⊢
    rw [show (0 : Int).natAbs <<< (p + 149).toNat = 0 from Nat.zero_shiftLeft _, rnd_zero] at this
    rw [show (0 : Int).natAbs <<< (p + 149).toNat = 0 from Nat.zero_shiftLeft _]
    cases hst : (s && !t) <;> rw [hst] at this <;> simpa using this
  · rw [if_neg h0] at this ⊢
    unfold rz
    rw [hk]
    by_cases hz : z < 0
    · rw [decide_eq_true hz] at this ⊢
      rw [if_pos (Int.mul_neg_of_neg_of_pos hz hpos)]
      exact this
    · rw [decide_eq_false hz] at this ⊢
      rw [if_neg (by have := Int.mul_nonneg (Int.not_lt.1 hz) (Int.le_of_lt hpos); omega)]
      exact this
theorem mul_val {x y : F} {v w : Int} (hx : Val x v) (hy : Val y w) (hl : (v * w).natAbs.log2 ≤ 424) : Val (fmul x y) (rz 149 (v * w)) := by
  obtain ⟨a, s, m, e, rfl, ha, he, rfl⟩ := hx
  obtain ⟨b, t, n, f, rfl, hb, hf, rfl⟩ := hy
  have h : fmul (some a) (some b) = some (Ieee.single.write (.number (s != t) (m * n) (e + f))) := by
    show ((Ieee.single.read a).product (Ieee.single.read b)).map Ieee.single.write = _
    rw [ha, hb]; rfl
  rw [h]
  have hw : Ieee.single.write (.number (s != t) (m * n) (e + f)) = Ieee.single.write (.number (s != t) ((m * n) <<< (e + f + 298).toNat) (-149 - ((149 : Nat) : Int))) := by
    show Ieee.single.nearest _ _ _ = Ieee.single.nearest _ _ _
    have := nearest_shl (s != t) (m * n) (e + f + 298).toNat (e + f)
    rw [show (-149 - ((149 : Nat) : Int)) = e + f - ((e + f + 298).toNat : Int) by omega]
    exact this.symm
  have hP : m * 2 ^ (e + 149).toNat * (n * 2 ^ (f + 149).toNat) = (m * n) <<< (e + f + 298).toNat := by
    rw [Nat.shiftLeft_eq, show (e + f + 298).toNat = (e + 149).toNat + (f + 149).toNat by omega, Nat.pow_add]
    simp only [Nat.mul_assoc, Nat.mul_left_comm]
  have hz : Ieee.signed s m (e + 149).toNat * Ieee.signed t n (f + 149).toNat = if (s != t) then -(((m * n) <<< (e + f + 298).toNat : Nat) : Int) else (((m * n) <<< (e + f + 298).toNat : Nat) : Int) := by
    rw [signed_eq, signed_eq, ← hP]
    cases s <;> cases t <;> simp [Int.neg_mul, Int.mul_neg]
  rw [hw]
  rw [hz] at hl ⊢
  generalize (m * n) <<< (e + f + 298).toNat = P at hl ⊢
  have := write_val (s != t) 149 P (by cases hst : (s != t) <;> rw [hst] at hl <;> simpa using hl)
  unfold rz
  cases hst : (s != t)
  · rw [hst] at this
    simp only [Bool.false_eq_true, if_false] at this ⊢
    rw [if_neg (by omega)]
    exact this
  · rw [hst] at this
    simp only [if_true] at this ⊢
    rw [Int.natAbs_neg, Int.natAbs_natCast]
    by_cases h0 : P = 0
    · subst h0
      rw [rnd_zero] at this ⊢
      simpa using this
    · rw [if_pos (by omega)]
      exact this
theorem val_inj {x : F} {v w : Int} (h : Val x v) (h' : Val x w) : v = w := by
  obtain ⟨a, s, m, e, rfl, ha, he, rfl⟩ := h
  obtain ⟨b, t, n, f, hb', hb, hf, rfl⟩ := h'
  cases hb'
  rw [ha] at hb
  cases hb
  rfl
end Go.Proofs.Ytfcphfdfpjmgiaa

namespace Go.Proofs.Ytfcphfdfpjmgiaa
open Go.RowKit

/-! What a float is worth, by its bits. -/
def valF (x : F) : Option Int := x.bind fun b => match Ieee.single.read b with
  | .number s m e => some (Ieee.signed s m (e + 149).toNat)
  | _ => none
theorem valF_of {x : F} {v : Int} (h : valF x = some v) : Val x v := by
  cases x with
  | none => cases h
  | some b =>
    have h' : (match Ieee.single.read b with | .number s m e => some (Ieee.signed s m (e + 149).toNat) | _ => none) = some v := h
    rcases read_single b with ⟨s, m, e, h1, _, h3, _⟩ | ⟨s, h1⟩ | ⟨s, t, h1⟩
    · rw [h1] at h'
      cases h'
      exact ⟨b, s, m, e, rfl, h1, h3, rfl⟩
    · rw [h1] at h'; cases h'
    · rw [h1] at h'; cases h'
theorem valF_eq {x : F} {v : Int} (h : Val x v) : valF x = some v := by
  obtain ⟨b, s, m, e, rfl, h1, _, rfl⟩ := h
  show (match Ieee.single.read b with | .number s m e => some (Ieee.signed s m (e + 149).toNat) | _ => none) = _
  rw [h1]
/-- A float's value has few digits. -/
theorem val_form {x : F} {v : Int} (h : Val x v) : ∃ m k : Nat, v.natAbs = m * 2 ^ k ∧ m ≤ 16777216 := by
  obtain ⟨b, s, m, e, rfl, h1, h2, rfl⟩ := h
  rcases read_single b with ⟨s', m', e', k1, k2, _, _⟩ | ⟨s', k1⟩ | ⟨s', t', k1⟩
  · rw [h1] at k1
    cases k1
    exact ⟨m, (e + 149).toNat, by rw [signed_abs, Nat.shiftLeft_eq], by omega⟩
  · rw [h1] at k1; cases k1
  · rw [h1] at k1; cases k1
theorem rz_exact {x : F} {v : Int} (h : Val x v) (b : Nat) : rz b (v * (2 ^ b : Nat)) = v := by
  obtain ⟨m, k, h1, h2⟩ := val_form h
  have e1 : (v * (2 ^ b : Nat)).natAbs = m * 2 ^ (k + b) := by rw [Int.natAbs_mul, Int.natAbs_natCast, h1, Nat.mul_assoc, ← Nat.pow_add]
  have e2 : rnd b (m * 2 ^ (k + b)) = v.natAbs := by rw [rnd_exact b m (k + b) h2 (by omega), h1, Nat.add_sub_cancel]
  have hp : (0 : Int) < (2 ^ b : Nat) := by have := Nat.two_pow_pos b; omega
  unfold rz
  rw [e1, e2]
  by_cases hv : v < 0
  · rw [if_pos (Int.mul_neg_of_neg_of_pos hv hp)]; omega
  · rw [if_neg (by have := Int.mul_nonneg (Int.not_lt.1 hv) (Int.le_of_lt hp); omega)]; omega
theorem rz_near0 (z : Int) : 16777216 * (rz 0 z - z) ≤ z.natAbs ∧ 16777216 * (z - rz 0 z) ≤ z.natAbs := by
  obtain ⟨h1, h2⟩ := rnd_near0 z.natAbs
  unfold rz
  split <;> omega
theorem rz_near (b : Nat) (z : Int) : 16777216 * (rz b z * (2 ^ b : Nat) - z) ≤ z.natAbs + (2 ^ (b + 23) : Nat) ∧ 16777216 * (z - rz b z * (2 ^ b : Nat)) ≤ z.natAbs + (2 ^ (b + 23) : Nat) := by
  obtain ⟨h1, h2⟩ := rnd_near b z.natAbs
  have e : ((rnd b z.natAbs * 2 ^ b : Nat) : Int) = (rnd b z.natAbs : Int) * (2 ^ b : Nat) := Int.natCast_mul _ _
  unfold rz
  obtain ⟨T, hT⟩ : ∃ T : Nat, 2 ^ (b + 23) = T := ⟨_, rfl⟩
  rw [hT] at h1 h2 ⊢
  have hm : max z.natAbs T ≤ z.natAbs + T := by omega
  obtain ⟨R, hR⟩ : ∃ R : Nat, rnd b z.natAbs * 2 ^ b = R := ⟨_, rfl⟩
  rw [hR] at h1 h2 e
  split
  · rw [Int.neg_mul, ← e]
    omega
  · rw [← e]
    omega

/-! Division. -/
theorem log_le_of_lt {P k : Nat} (h : P < 2 ^ (k + 1)) : P.log2 ≤ k := by
  by_cases h0 : P = 0
  · subst h0; exact Nat.zero_le _
  · have := (Nat.log2_lt h0).2 h; omega
theorem div_lin (n R Q S D H : Nat) (n1 : 16777216 * R ≤ 16777216 * Q + max Q S) (n2 : 16777216 * Q ≤ 16777216 * R + max Q S) (d1 : n * Q ≤ D + H) (d1' : D ≤ n * Q + H) (d2 : 33554432 * H ≤ D) :
    16777216 * (n * R) ≤ 16777216 * D + (2 * D + n * S) ∧ 16777216 * D ≤ 16777216 * (n * R) + (2 * D + n * S) := by
  have m1 : max Q S ≤ Q + S := by omega
  have b1 := Nat.mul_le_mul_left n (Nat.le_trans n1 (Nat.add_le_add_left m1 _))
  have b2 := Nat.mul_le_mul_left n (Nat.le_trans n2 (Nat.add_le_add_left m1 _))
  simp only [Nat.mul_add, Nat.mul_left_comm n 16777216] at b1 b2
  generalize n * R = A at *
  generalize n * Q = C at *
  generalize n * S = T at *
  omega
theorem div_lin2 (w r V b c : Nat) (hb : 0 < b) (h1 : 16777216 * (w * r * b) ≤ 16777216 * (V * c * b) + (2 * (V * c * b) + w * 8388608 * b)) (h2 : 16777216 * (V * c * b) ≤ 16777216 * (w * r * b) + (2 * (V * c * b) + w * 8388608 * b)) :
    8388608 * (w * r) ≤ 8388608 * (V * c) + (V * c + w * 4194304) ∧ 8388608 * (V * c) ≤ 8388608 * (w * r) + (V * c + w * 4194304) := by
  have k1 : (16777216 * (w * r)) * b ≤ (16777216 * (V * c) + (2 * (V * c) + w * 8388608)) * b := by
    simp only [Nat.add_mul, Nat.mul_assoc 16777216, Nat.mul_assoc 2]; exact h1
  have k2 : (16777216 * (V * c)) * b ≤ (16777216 * (w * r) + (2 * (V * c) + w * 8388608)) * b := by
    simp only [Nat.add_mul, Nat.mul_assoc 16777216, Nat.mul_assoc 2]; exact h2
  have g1 := Nat.le_of_mul_le_mul_right k1 hb
  have g2 := Nat.le_of_mul_le_mul_right k2 hb
  clear k1 k2 h1 h2
  generalize w * r = A at *
  generalize V * c = B at *
  omega
theorem div_val {x y : F} {v w : Int} (hx : Val x v) (hy : Val y w) (hw : 0 < w) (hb : (v.natAbs : Int) ≤ w * (2 ^ 100 : Nat)) :
    ∃ r : Int, Val (fdiv x y) r ∧ (0 ≤ v → 0 ≤ r) ∧ (v ≤ 0 → r ≤ 0) ∧ 8388608 * (w * r - v * (2 ^ 149 : Nat)) ≤ v.natAbs * (2 ^ 149 : Nat) + w * (2 ^ 22 : Nat) ∧ 8388608 * (v * (2 ^ 149 : Nat) - w * r) ≤ v.natAbs * (2 ^ 149 : Nat) + w * (2 ^ 22 : Nat) := by
  obtain ⟨a, s, m, e, rfl, ha, he, rfl⟩ := hx
  obtain ⟨b, t, n, f, rfl, hb', hf, rfl⟩ := hy
  have hm24 : m < 16777216 ∧ e ≤ 104 := by
    rcases read_single a with ⟨s', m', e', k1, k2, _, k4⟩ | ⟨s', k1⟩ | ⟨s', t', k1⟩
    · rw [ha] at k1; cases k1; exact ⟨k2, k4⟩
    · rw [ha] at k1; cases k1
    · rw [ha] at k1; cases k1
  have hn24 : n < 16777216 ∧ f ≤ 104 := by
    rcases read_single b with ⟨s', m', e', k1, k2, _, k4⟩ | ⟨s', k1⟩ | ⟨s', t', k1⟩
    · rw [hb'] at k1; cases k1; exact ⟨k2, k4⟩
    · rw [hb'] at k1; cases k1
    · rw [hb'] at k1; cases k1
  have es := signed_eq s m (e + 149).toNat
  have et := signed_eq t n (f + 149).toNat
  have ht : t = false := by
    cases t
    · rfl
    · exfalso
      rw [if_pos rfl] at et
      generalize n * 2 ^ (f + 149).toNat = N at et
      omega
  subst ht
  rw [if_neg (by simp)] at et
  rw [et] at hw hb ⊢
  have hn0 : n ≠ 0 := by
    rintro rfl
    rw [Nat.zero_mul] at hw
    omega
  have hnm : (Ieee.signed s m (e + 149).toNat).natAbs = m * 2 ^ (e + 149).toNat := by rw [signed_abs, Nat.shiftLeft_eq]
  rw [hnm] at hb ⊢
  rw [es]
  have hfb : Ieee.single.fractionBits = 23 := rfl
  obtain ⟨more, hmore⟩ : ∃ more, 25 + n.log2 - m.log2 = more := ⟨_, rfl⟩
  have hl24 : m.log2 < 24 := by
    by_cases h0 : m = 0
    · subst h0; decide
    · exact (Nat.log2_lt h0).2 hm24.1
  have hln : n.log2 < 24 := (Nat.log2_lt hn0).2 hn24.1
  obtain ⟨st, hst⟩ : ∃ st, ((m <<< more) % n != 0).toNat = st := ⟨_, rfl⟩
  obtain ⟨P, hP⟩ : ∃ P, 2 * ((m <<< more) / n) + st = P := ⟨_, rfl⟩
  have h : fdiv (some a) (some b) = some (Ieee.single.write (.number s P (e - f - more - 1))) := by
    show ((Ieee.single.read a).quotient (Ieee.single.fractionBits + 2) (Ieee.single.read b)).map Ieee.single.write = _
    rw [ha, hb', hfb]
    simp only [Ieee.Datum.quotient]
    rw [if_neg hn0]
    simp only [Option.map_some]
    rw [show 23 + 2 + n.log2 - m.log2 = more from hmore, hst, hP]
    cases s <;> rfl
  obtain ⟨K, hK⟩ : ∃ K : Nat, (e - f - (more : Int) - 1 + 309).toNat = K := ⟨_, rfl⟩
  have hK0 : ((K : Nat) : Int) = e - f - (more : Int) - 1 + 309 := by omega
  have hw' : Ieee.single.write (.number s P (e - f - more - 1)) = Ieee.single.write (.number s (P <<< K) (-149 - ((160 : Nat) : Int))) := by
    show Ieee.single.nearest _ _ _ = Ieee.single.nearest _ _ _
    have := nearest_shl s P K (e - f - more - 1)
    rw [show (-149 - ((160 : Nat) : Int)) = e - f - more - 1 - (K : Int) by omega]
    exact this.symm
  rw [h, hw']
  have hshl : P <<< K = P * 2 ^ K := Nat.shiftLeft_eq _ _
  rw [hshl]
  -- how near the cut quotient is
  have hM := Nat.div_add_mod (m <<< more) n
  have hr0 := Nat.mod_lt (m <<< more) (Nat.pos_of_ne_zero hn0)
  have hMe : m <<< more = m * 2 ^ more := Nat.shiftLeft_eq _ _
  have c1 : n * P ≤ 2 * (m * 2 ^ more) + n ∧ 2 * (m * 2 ^ more) ≤ n * P + n := by
    rw [← hP, Nat.mul_add, Nat.mul_left_comm, ← hMe]
    by_cases h0 : (m <<< more) % n = 0
    · have : st = 0 := by rw [← hst, h0]; rfl
      subst this
      rw [Nat.mul_zero]
      omega
    · have : st = 1 := by
        rw [← hst, show ((m <<< more) % n != 0) = true by simpa using h0]; rfl
      subst this
      rw [Nat.mul_one]
      omega
  have c2 : m = 0 ∨ 16777216 * n ≤ m * 2 ^ more := by
    by_cases h0 : m = 0
    · exact .inl h0
    · right
      have g1 : n < 2 ^ (n.log2 + 1) := Nat.lt_log2_self
      have g2 : 2 ^ m.log2 ≤ m := Nat.log2_self_le h0
      calc 16777216 * n ≤ 2 ^ 24 * 2 ^ (n.log2 + 1) := Nat.mul_le_mul (by decide) (Nat.le_of_lt g1)
        _ = 2 ^ m.log2 * 2 ^ more := by rw [← Nat.pow_add, ← Nat.pow_add]; congr 1; omega
        _ ≤ m * 2 ^ more := Nat.mul_le_mul_right _ g2
  obtain ⟨E, hE⟩ : ∃ E : Nat, more + 1 + K = E := ⟨_, rfl⟩
  have hEe : ((E : Nat) : Int) = e - f + 309 := by omega
  have d0 : 2 * (m * 2 ^ more) * 2 ^ K = m * 2 ^ E := by
    rw [← hE, Nat.pow_add, Nat.pow_succ]
    simp only [Nat.mul_assoc, Nat.mul_left_comm, Nat.mul_comm]
  have d1 : n * (P * 2 ^ K) ≤ m * 2 ^ E + n * 2 ^ K ∧ m * 2 ^ E ≤ n * (P * 2 ^ K) + n * 2 ^ K := by
    have a1 := Nat.mul_le_mul_right (2 ^ K) c1.1
    have a2 := Nat.mul_le_mul_right (2 ^ K) c1.2
    rw [Nat.add_mul, d0, Nat.mul_assoc] at a1
    rw [Nat.add_mul, d0, Nat.mul_assoc] at a2
    exact ⟨a1, a2⟩
  have d2 : m = 0 ∨ 33554432 * (n * 2 ^ K) ≤ m * 2 ^ E := by
    rcases c2 with h0 | h0
    · exact .inl h0
    · right
      have a1 := Nat.mul_le_mul_right (2 ^ K) (Nat.mul_le_mul_left 2 h0)
      rw [d0] at a1
      calc 33554432 * (n * 2 ^ K) = 2 * (16777216 * n) * 2 ^ K := by simp only [← Nat.mul_assoc]
        _ ≤ _ := a1
  have hP0 : m = 0 → P = 0 := by
    intro h0
    have : m <<< more = 0 := by rw [h0, Nat.zero_shiftLeft]
    rw [← hP, ← hst, this, Nat.zero_div, Nat.zero_mod]; rfl
  -- how large it is
  have hF : ∃ Fx : Nat, (f + 149).toNat = Fx := ⟨_, rfl⟩
  obtain ⟨Fx, hFx⟩ := hF
  obtain ⟨Ex, hEx⟩ : ∃ Ex : Nat, (e + 149).toNat = Ex := ⟨_, rfl⟩
  rw [hFx] at hw hb ⊢
  rw [hEx] at hb ⊢
  have hEF : E + Fx = Ex + 309 := by omega
  have hb2 : m * 2 ^ Ex ≤ n * 2 ^ Fx * 2 ^ 100 := by exact_mod_cast hb
  obtain ⟨z9, hz9⟩ : ∃ z9 : Nat, z9 = 309 := ⟨_, rfl⟩
  have hlog : (P * 2 ^ K).log2 ≤ 160 + 275 := by
    have key : P * 2 ^ K < 2 ^ (101 + z9 + 1) := by
      rcases d2 with h0 | h0
      · rw [hP0 h0, Nat.zero_mul]; exact Nat.two_pow_pos _
      · have a1 : n * (P * 2 ^ K) ≤ 2 * (m * 2 ^ E) := by omega
        have a2 : n * (P * 2 ^ K) * 2 ^ Fx ≤ 2 * (m * 2 ^ E) * 2 ^ Fx := Nat.mul_le_mul_right _ a1
        have a3 : 2 * (m * 2 ^ E) * 2 ^ Fx = 2 * (m * 2 ^ Ex) * 2 ^ z9 := by
          rw [Nat.mul_assoc, Nat.mul_assoc, ← Nat.pow_add, hEF, ← hz9, Nat.pow_add, Nat.mul_assoc, Nat.mul_assoc]
        have a4 : 2 * (m * 2 ^ Ex) * 2 ^ z9 ≤ 2 * (n * 2 ^ Fx * 2 ^ 100) * 2 ^ z9 := Nat.mul_le_mul_right _ (Nat.mul_le_mul_left 2 hb2)
        have a5 : n * 2 ^ Fx * (P * 2 ^ K) ≤ n * 2 ^ Fx * (2 ^ (101 + z9)) := by
          have e101 : 2 ^ (101 + z9) = 2 * 2 ^ 100 * 2 ^ z9 := by rw [Nat.pow_add]
          calc n * 2 ^ Fx * (P * 2 ^ K) = n * (P * 2 ^ K) * 2 ^ Fx := by simp only [Nat.mul_assoc, Nat.mul_left_comm, Nat.mul_comm]
            _ ≤ 2 * (m * 2 ^ E) * 2 ^ Fx := a2
            _ = 2 * (m * 2 ^ Ex) * 2 ^ z9 := a3
            _ ≤ _ := a4
            _ = _ := by rw [e101]; simp only [Nat.mul_assoc, Nat.mul_left_comm]
        have a6 := Nat.le_of_mul_le_mul_left a5 (Nat.mul_pos (Nat.pos_of_ne_zero hn0) (Nat.two_pow_pos Fx))
        exact Nat.lt_of_le_of_lt a6 (Nat.pow_lt_pow_right (by decide) (by omega))
    have := log_le_of_lt key
    omega
  have hval := write_val s 160 (P * 2 ^ K) hlog
  obtain ⟨n1, n2⟩ := rnd_near 160 (P * 2 ^ K)
  have hz : m = 0 → rnd 160 (P * 2 ^ K) = 0 := fun h0 => by rw [hP0 h0, Nat.zero_mul]; exact rnd_zero _
  obtain ⟨r, hr⟩ : ∃ r, rnd 160 (P * 2 ^ K) = r := ⟨_, rfl⟩
  rw [hr] at hval n1 n2 hz
  obtain ⟨c, hc⟩ : ∃ c : Nat, 2 ^ 149 = c := ⟨_, rfl⟩
  obtain ⟨b0, hb0⟩ : ∃ b0 : Nat, 2 ^ 160 = b0 := ⟨_, rfl⟩
  have hbp : 0 < b0 := by rw [← hb0]; exact Nat.two_pow_pos _
  have e183 : 2 ^ (160 + 23) = 8388608 * b0 := by rw [Nat.pow_add, hb0, Nat.mul_comm]
  have e309 : m * 2 ^ E * 2 ^ Fx = m * 2 ^ Ex * c * b0 := by
    have e : E + Fx = Ex + 149 + 160 := by omega
    rw [Nat.mul_assoc, ← Nat.pow_add, e, Nat.pow_add, Nat.pow_add, hc, hb0, Nat.mul_assoc, Nat.mul_assoc]
    simp only [Nat.mul_assoc]
  rw [hb0, e183] at n1 n2
  have g1 : 8388608 * (n * 2 ^ Fx * r) ≤ 8388608 * (m * 2 ^ Ex * c) + (m * 2 ^ Ex * c + n * 2 ^ Fx * 4194304) ∧ 8388608 * (m * 2 ^ Ex * c) ≤ 8388608 * (n * 2 ^ Fx * r) + (m * 2 ^ Ex * c + n * 2 ^ Fx * 4194304) := by
    rcases d2 with h0 | h0
    · rw [hz h0, h0]; simp
    · obtain ⟨k1, k2⟩ := div_lin n (r * b0) (P * 2 ^ K) (8388608 * b0) (m * 2 ^ E) (n * 2 ^ K) n1 n2 d1.1 d1.2 h0
      have b1 := Nat.mul_le_mul_right (2 ^ Fx) k1
      have b2 := Nat.mul_le_mul_right (2 ^ Fx) k2
      simp only [Nat.add_mul, Nat.mul_assoc 16777216, Nat.mul_assoc 2] at b1 b2
      have f1 : n * (r * b0) * 2 ^ Fx = n * 2 ^ Fx * r * b0 := by simp only [Nat.mul_assoc, Nat.mul_left_comm, Nat.mul_comm]
      have f3 : n * (8388608 * b0) * 2 ^ Fx = n * 2 ^ Fx * 8388608 * b0 := by simp only [Nat.mul_assoc, Nat.mul_left_comm, Nat.mul_comm]
      rw [f1, e309, f3] at b1 b2
      exact div_lin2 _ _ _ _ _ hbp b1 b2
  have hw2 : n * 2 ^ Fx ≠ 0 := Nat.mul_ne_zero hn0 (Nat.pos_iff_ne_zero.1 (Nat.two_pow_pos _))
  refine ⟨_, hval, ?_, ?_, ?_, ?_⟩
  · intro h0
    cases s
    · simp
    · have h1 : m * 2 ^ Ex = 0 := by
        rw [if_pos rfl] at h0
        generalize m * 2 ^ Ex = V at h0
        omega
      have h2 : m = 0 := by
        rcases Nat.mul_eq_zero.1 h1 with h | h
        · exact h
        · exact absurd h (Nat.pos_iff_ne_zero.1 (Nat.two_pow_pos _))
      rw [hz h2]; simp
  · intro h0
    cases s
    · have h1 : m * 2 ^ Ex = 0 := by
        rw [if_neg (by simp)] at h0
        generalize m * 2 ^ Ex = V at h0
        omega
      have h2 : m = 0 := by
        rcases Nat.mul_eq_zero.1 h1 with h | h
        · exact h
        · exact absurd h (Nat.pos_iff_ne_zero.1 (Nat.two_pow_pos _))
      rw [hz h2]; simp
    · simp
  all_goals
    rw [show (2 : Nat) ^ 22 = 4194304 from rfl, hc]
    have i1 : ((n * 2 ^ Fx : Nat) : Int) * (r : Int) = ((n * 2 ^ Fx * r : Nat) : Int) := (Int.natCast_mul _ _).symm
    have i2 : ((m * 2 ^ Ex : Nat) : Int) * (c : Int) = ((m * 2 ^ Ex * c : Nat) : Int) := (Int.natCast_mul _ _).symm
    generalize n * 2 ^ Fx * r = A at *
    generalize m * 2 ^ Ex * c = D at *
    generalize n * 2 ^ Fx = T at *
    cases s
    · simp only [Bool.false_eq_true, if_false]
      rw [i1, i2]
      omega
    · simp only [if_true]
      rw [Int.mul_neg, Int.neg_mul, i1, i2]
      omega
end Go.Proofs.Ytfcphfdfpjmgiaa

namespace Go.Proofs.Ytfcphfdfpjmgiaa
open Go.RowKit

/-- How many least units there are in 1. -/
def uQ : Rat := 713623846352979940529142984724747568191373312
theorem uQ_pos : (0 : Rat) < uQ := by decide +kernel
theorem uQ_eq : uQ = (((2 ^ 149 : Nat) : Int) : Rat) := by decide +kernel
/-- A float is worth this number. -/
def RV (x : F) (q : Rat) : Prop := ∃ v : Int, Val x v ∧ q * uQ = (v : Rat)
theorem RV.of {x : F} {v : Int} {q : Rat} (h : valF x = some v) (hq : q * uQ = (v : Rat)) : RV x q := ⟨v, valF_of h, hq⟩
theorem q_le {p q : Rat} {v w : Int} (hp : p * uQ = (v : Rat)) (hq : q * uQ = (w : Rat)) : p ≤ q ↔ v ≤ w := by
  constructor
  · intro h
    have h1 := Rat.mul_le_mul_of_nonneg_right h (Rat.le_of_lt uQ_pos)
    rw [hp, hq] at h1
    exact Rat.intCast_le_intCast.1 h1
  · intro h
    have h1 := Rat.intCast_le_intCast.2 h
    rw [← hp, ← hq] at h1
    exact Rat.le_of_mul_le_mul_right h1 uQ_pos
theorem q_eq {p q : Rat} {v w : Int} (hp : p * uQ = (v : Rat)) (hq : q * uQ = (w : Rat)) : p = q ↔ v = w := by
  have h1 := q_le hp hq
  have h2 := q_le hq hp
  constructor
  · intro h
    subst h
    have := h1.1 (Rat.le_refl)
    have := h2.1 (Rat.le_refl)
    omega
  · intro h
    exact Rat.le_antisymm (h1.2 (by omega)) (h2.2 (by omega))
theorem RV.inj {x : F} {p q : Rat} (h : RV x p) (h' : RV x q) : p = q := by
  obtain ⟨v, h1, h2⟩ := h
  obtain ⟨w, h3, h4⟩ := h'
  exact (q_eq h2 h4).2 (val_inj h1 h3)
theorem RV.le {x y : F} {p q : Rat} (hx : RV x p) (hy : RV y q) : fle x y = decide (p ≤ q) := by
  obtain ⟨v, h1, h2⟩ := hx
  obtain ⟨w, h3, h4⟩ := hy
  rw [fle_val h1 h3]
  exact decide_eq_decide.2 (q_le h2 h4).symm
theorem RV.ge {x y : F} {p q : Rat} (hx : RV x p) (hy : RV y q) : fge x y = decide (q ≤ p) := by
  obtain ⟨v, h1, h2⟩ := hx
  obtain ⟨w, h3, h4⟩ := hy
  rw [fge_val h1 h3]
  exact decide_eq_decide.2 (q_le h4 h2).symm
theorem q_lt {p q : Rat} {v w : Int} (hp : p * uQ = (v : Rat)) (hq : q * uQ = (w : Rat)) : p < q ↔ v < w := by
  rw [← Rat.not_le, q_le hq hp]; omega
theorem RV.lt {x y : F} {p q : Rat} (hx : RV x p) (hy : RV y q) : flt x y = decide (p < q) := by
  obtain ⟨v, h1, h2⟩ := hx
  obtain ⟨w, h3, h4⟩ := hy
  rw [flt_val h1 h3]
  exact decide_eq_decide.2 (q_lt h2 h4).symm
theorem RV.gt {x y : F} {p q : Rat} (hx : RV x p) (hy : RV y q) : fgt x y = decide (q < p) := by
  obtain ⟨v, h1, h2⟩ := hx
  obtain ⟨w, h3, h4⟩ := hy
  rw [fgt_val h1 h3]
  exact decide_eq_decide.2 (q_lt h4 h2).symm
theorem RV.eq {x y : F} {p q : Rat} (hx : RV x p) (hy : RV y q) : feq x y = decide (p = q) := by
  obtain ⟨v, h1, h2⟩ := hx
  obtain ⟨w, h3, h4⟩ := hy
  rw [feq_val h1 h3]
  exact decide_eq_decide.2 (q_eq h2 h4).symm
theorem RV.fin {x : F} {p : Rat} (hx : RV x p) : fin x = true := by
  obtain ⟨v, ⟨b, s, m, e, rfl, hd, he, _⟩, _⟩ := hx
  by_cases h0 : m = 0
  · exact fin_le (k := 0) ⟨b, s, m, e, rfl, hd, he, .inl h0⟩
  · exact fin_le (k := lg m e) ⟨b, s, m, e, rfl, hd, he, .inr (Int.le_refl _)⟩

/-- Nearly this number. -/
def Near (r e : Rat) : Prop := ∀ B, e ≤ B → -e ≤ B → r - e ≤ B / 8388608 + 1 / uQ ∧ e - r ≤ B / 8388608 + 1 / uQ
theorem abs_q {z : Int} {e B : Rat} (he : e * uQ = (z : Rat)) (h1 : e ≤ B) (h2 : -e ≤ B) : ((z.natAbs : Int) : Rat) ≤ B * uQ := by
  rcases Int.natAbs_eq z with hz | hz
  · have : ((z.natAbs : Int) : Rat) = (z : Rat) := by rw [← hz]
    rw [this, ← he]
    exact Rat.mul_le_mul_of_nonneg_right h1 (Rat.le_of_lt uQ_pos)
  · have : ((z.natAbs : Int) : Rat) = -(z : Rat) := by rw [← Rat.intCast_neg]; congr 1; omega
    rw [this, ← he, ← Rat.neg_mul]
    exact Rat.mul_le_mul_of_nonneg_right h2 (Rat.le_of_lt uQ_pos)
theorem natAbs_of_q {z : Int} {e : Rat} {n : Nat} (he : e * uQ = (z : Rat)) (h1 : e ≤ ((n : Int) : Rat)) (h2 : -e ≤ ((n : Int) : Rat)) : z.natAbs ≤ n * 2 ^ 149 := by
  have := abs_q he h1 h2
  rw [uQ_eq, ← Rat.intCast_mul] at this
  have := Rat.intCast_le_intCast.1 this
  rw [← Int.natCast_mul] at this
  exact Int.ofNat_le.1 this
theorem log_of_q {z : Int} {e : Rat} (he : e * uQ = (z : Rat)) (h1 : e ≤ 1267650600228229401496703205376) (h2 : -e ≤ 1267650600228229401496703205376) : z.natAbs.log2 ≤ 249 := by
  have h := natAbs_of_q (n := 2 ^ 100) he h1 h2
  refine log_le_of_lt (Nat.lt_of_le_of_lt h ?_)
  rw [← Nat.pow_add]
  exact Nat.pow_lt_pow_right (by decide) (by decide)

/-- A sum. -/
theorem RV.add {x y : F} {p q : Rat} (hx : RV x p) (hy : RV y q) (h1 : p + q ≤ 1267650600228229401496703205376) (h2 : -(p + q) ≤ 1267650600228229401496703205376) :
    ∃ r, RV (fadd x y) r ∧ Near r (p + q) ∧ (∀ z s, RV z s → p + q ≤ s → r ≤ s) ∧ (∀ z s, RV z s → s ≤ p + q → s ≤ r) := by
  obtain ⟨v, hv, ev⟩ := hx
  obtain ⟨w, hw, ew⟩ := hy
  have es : (p + q) * uQ = ((v + w : Int) : Rat) := by rw [Rat.add_mul, ev, ew, Rat.intCast_add]
  have hr := add_val hv hw (Nat.le_trans (log_of_q es h1 h2) (by decide))
  have hrr : ((rz 0 (v + w) : Int) : Rat) / uQ * uQ = ((rz 0 (v + w) : Int) : Rat) := Rat.div_mul_cancel (by have := uQ_pos; grind)
  obtain ⟨n1, n2⟩ := rz_near0 (v + w)
  refine ⟨((rz 0 (v + w) : Int) : Rat) / uQ, ⟨_, hr, hrr⟩, fun B b1 b2 => ?_, fun z s hz hs => ?_, fun z s hz hs => ?_⟩
  · have hB := abs_q es b1 b2
    have m1 := Rat.intCast_le_intCast.2 n1
    have m2 := Rat.intCast_le_intCast.2 n2
    rw [Rat.intCast_mul, Rat.intCast_sub] at m1 m2
    have k1 : (16777216 : Rat) * (((rz 0 (v + w) : Int) : Rat) - ((v + w : Int) : Rat)) ≤ B * uQ := Rat.le_trans m1 hB
    have k2 : (16777216 : Rat) * (((v + w : Int) : Rat) - ((rz 0 (v + w) : Int) : Rat)) ≤ B * uQ := Rat.le_trans m2 hB
    have hB0 : 0 ≤ B * uQ := Rat.le_trans (Rat.intCast_le_intCast.2 (by omega : (0 : Int) ≤ ((v + w).natAbs : Int))) hB
    rw [← hrr, ← es] at k1 k2
    generalize ((rz 0 (v + w) : Int) : Rat) / uQ = r at k1 k2 ⊢
    have hu : 1 / uQ * uQ = 1 := Rat.div_mul_cancel (by have := uQ_pos; grind)
    constructor
    · refine Rat.le_of_mul_le_mul_right (c := uQ) ?_ uQ_pos
      rw [Rat.add_mul, hu]
      grind
    · refine Rat.le_of_mul_le_mul_right (c := uQ) ?_ uQ_pos
      rw [Rat.add_mul, hu]
      grind
  · obtain ⟨u, hu, eu⟩ := hz
    have k := rz_mono 0 ((q_le es eu).1 hs)
    have k2 := rz_exact hu 0
    rw [show ((2 ^ 0 : Nat) : Int) = 1 from rfl, Int.mul_one] at k2
    rw [k2] at k
    exact (q_le hrr eu).2 k
  · obtain ⟨u, hu, eu⟩ := hz
    have k := rz_mono 0 ((q_le eu es).1 hs)
    have k2 := rz_exact hu 0
    rw [show ((2 ^ 0 : Nat) : Int) = 1 from rfl, Int.mul_one] at k2
    rw [k2] at k
    exact (q_le eu hrr).2 k
/-- A difference. -/
theorem RV.sub {x y : F} {p q : Rat} (hx : RV x p) (hy : RV y q) (h1 : p - q ≤ 1267650600228229401496703205376) (h2 : -(p - q) ≤ 1267650600228229401496703205376) :
    ∃ r, RV (fsub x y) r ∧ Near r (p - q) ∧ (∀ z s, RV z s → p - q ≤ s → r ≤ s) ∧ (∀ z s, RV z s → s ≤ p - q → s ≤ r) := by
  obtain ⟨v, hv, ev⟩ := hx
  obtain ⟨w, hw, ew⟩ := hy
  have es : (p - q) * uQ = ((v - w : Int) : Rat) := by rw [Rat.intCast_sub, ← ev, ← ew]; grind
  have hr := sub_val hv hw (Nat.le_trans (log_of_q es h1 h2) (by decide))
  have hrr : ((rz 0 (v - w) : Int) : Rat) / uQ * uQ = ((rz 0 (v - w) : Int) : Rat) := Rat.div_mul_cancel (by have := uQ_pos; grind)
  obtain ⟨n1, n2⟩ := rz_near0 (v - w)
  refine ⟨((rz 0 (v - w) : Int) : Rat) / uQ, ⟨_, hr, hrr⟩, fun B b1 b2 => ?_, fun z s hz hs => ?_, fun z s hz hs => ?_⟩
  · have hB := abs_q es b1 b2
    have m1 := Rat.intCast_le_intCast.2 n1
    have m2 := Rat.intCast_le_intCast.2 n2
    rw [Rat.intCast_mul, Rat.intCast_sub] at m1 m2
    have k1 : (16777216 : Rat) * (((rz 0 (v - w) : Int) : Rat) - ((v - w : Int) : Rat)) ≤ B * uQ := Rat.le_trans m1 hB
    have k2 : (16777216 : Rat) * (((v - w : Int) : Rat) - ((rz 0 (v - w) : Int) : Rat)) ≤ B * uQ := Rat.le_trans m2 hB
    have hB0 : 0 ≤ B * uQ := Rat.le_trans (Rat.intCast_le_intCast.2 (by omega : (0 : Int) ≤ ((v - w).natAbs : Int))) hB
    rw [← hrr, ← es] at k1 k2
    generalize ((rz 0 (v - w) : Int) : Rat) / uQ = r at k1 k2 ⊢
    have hu : 1 / uQ * uQ = 1 := Rat.div_mul_cancel (by have := uQ_pos; grind)
    constructor
    · refine Rat.le_of_mul_le_mul_right (c := uQ) ?_ uQ_pos
      rw [Rat.add_mul, hu]
      grind
    · refine Rat.le_of_mul_le_mul_right (c := uQ) ?_ uQ_pos
      rw [Rat.add_mul, hu]
      grind
  · obtain ⟨u, hu, eu⟩ := hz
    have k := rz_mono 0 ((q_le es eu).1 hs)
    have k2 := rz_exact hu 0
    rw [show ((2 ^ 0 : Nat) : Int) = 1 from rfl, Int.mul_one] at k2
    rw [k2] at k
    exact (q_le hrr eu).2 k
  · obtain ⟨u, hu, eu⟩ := hz
    have k := rz_mono 0 ((q_le eu es).1 hs)
    have k2 := rz_exact hu 0
    rw [show ((2 ^ 0 : Nat) : Int) = 1 from rfl, Int.mul_one] at k2
    rw [k2] at k
    exact (q_le eu hrr).2 k
/-- A product. -/
theorem RV.mul {x y : F} {p q : Rat} (hx : RV x p) (hy : RV y q) (h1 : p * q ≤ 1267650600228229401496703205376) (h2 : -(p * q) ≤ 1267650600228229401496703205376) :
    ∃ r, RV (fmul x y) r ∧ Near r (p * q) ∧ (∀ z s, RV z s → p * q ≤ s → r ≤ s) ∧ (∀ z s, RV z s → s ≤ p * q → s ≤ r) := by
  obtain ⟨v, hv, ev⟩ := hx
  obtain ⟨w, hw, ew⟩ := hy
  have es : p * q * uQ * uQ = ((v * w : Int) : Rat) := by rw [Rat.intCast_mul, ← ev, ← ew]; grind
  have habs : ∀ B, p * q ≤ B → -(p * q) ≤ B → (((v * w).natAbs : Int) : Rat) ≤ B * uQ * uQ := by
    intro B b1 b2
    have u0 := Rat.le_of_lt uQ_pos
    rcases Int.natAbs_eq (v * w) with hz | hz
    · have : (((v * w).natAbs : Int) : Rat) = ((v * w : Int) : Rat) := by rw [← hz]
      rw [this, ← es]
      exact Rat.mul_le_mul_of_nonneg_right (Rat.mul_le_mul_of_nonneg_right b1 u0) u0
    · have : (((v * w).natAbs : Int) : Rat) = -((v * w : Int) : Rat) := by rw [← Rat.intCast_neg]; congr 1; omega
      rw [this, ← es, ← Rat.neg_mul, ← Rat.neg_mul]
      exact Rat.mul_le_mul_of_nonneg_right (Rat.mul_le_mul_of_nonneg_right b2 u0) u0
  have hl : (v * w).natAbs.log2 ≤ 424 := by
    obtain ⟨t, ht⟩ : ∃ t : Nat, t = 149 := ⟨_, rfl⟩
    have et : ((2 ^ 149 : Nat) : Int) = ((2 ^ t : Nat) : Int) := by rw [ht]
    have h := habs (((2 ^ 100 : Nat) : Int) : Rat) h1 h2
    rw [uQ_eq, ← Rat.intCast_mul, ← Rat.intCast_mul] at h
    have h := Rat.intCast_le_intCast.1 h
    rw [et, ← Int.natCast_mul, ← Int.natCast_mul] at h
    have h := Int.ofNat_le.1 h
    have : (v * w).natAbs.log2 ≤ 100 + (t + t) + 1 := by
      refine log_le_of_lt (Nat.lt_of_le_of_lt h ?_)
      rw [Nat.mul_assoc, ← Nat.pow_add, ← Nat.pow_add]
      exact Nat.pow_lt_pow_right (by decide) (by omega)
    omega
  have hr := mul_val hv hw hl
  have hrr : ((rz 149 (v * w) : Int) : Rat) / uQ * uQ = ((rz 149 (v * w) : Int) : Rat) := Rat.div_mul_cancel (by have := uQ_pos; grind)
  obtain ⟨n1, n2⟩ := rz_near 149 (v * w)
  have e172 : (((2 ^ (149 + 23) : Nat) : Int) : Rat) = 8388608 * uQ := by rw [uQ_eq]; decide +kernel
  refine ⟨((rz 149 (v * w) : Int) : Rat) / uQ, ⟨_, hr, hrr⟩, fun B b1 b2 => ?_, fun z s hz hs => ?_, fun z s hz hs => ?_⟩
  · have hB := habs B b1 b2
    have m1 := Rat.intCast_le_intCast.2 n1
    have m2 := Rat.intCast_le_intCast.2 n2
    rw [Rat.intCast_mul, Rat.intCast_sub, Rat.intCast_mul (rz 149 (v * w)), Rat.intCast_add, e172, ← uQ_eq] at m1 m2
    have k1 : (16777216 : Rat) * (((rz 149 (v * w) : Int) : Rat) * uQ - ((v * w : Int) : Rat)) ≤ B * uQ * uQ + 8388608 * uQ := Rat.le_trans m1 (by grind)
    have k2 : (16777216 : Rat) * (((v * w : Int) : Rat) - ((rz 149 (v * w) : Int) : Rat) * uQ) ≤ B * uQ * uQ + 8388608 * uQ := Rat.le_trans m2 (by grind)
    have hB0 : 0 ≤ B * uQ * uQ := Rat.le_trans (Rat.intCast_le_intCast.2 (by omega : (0 : Int) ≤ ((v * w).natAbs : Int))) hB
    rw [← hrr, ← es] at k1 k2
    generalize ((rz 149 (v * w) : Int) : Rat) / uQ = r at k1 k2 ⊢
    have hu : 1 / uQ * uQ = 1 := Rat.div_mul_cancel (by have := uQ_pos; grind)
    have up := uQ_pos
    generalize uQ = U at *
    have hB1 : 0 ≤ B * U := Rat.le_of_mul_le_mul_right (c := U) (by rw [Rat.zero_mul]; exact hB0) up
    have g1 : 16777216 * ((r - p * q) * U) ≤ B * U + 8388608 := Rat.le_of_mul_le_mul_right (c := U) (by grind) up
    have g2 : 16777216 * ((p * q - r) * U) ≤ B * U + 8388608 := Rat.le_of_mul_le_mul_right (c := U) (by grind) up
    constructor
    · refine Rat.le_of_mul_le_mul_right (c := U) ?_ up
      rw [Rat.add_mul, hu]
      grind
    · refine Rat.le_of_mul_le_mul_right (c := U) ?_ up
      rw [Rat.add_mul, hu]
      grind
  · obtain ⟨u, hu, eu⟩ := hz
    have k1 : v * w ≤ u * ((2 ^ 149 : Nat) : Int) := by
      refine Rat.intCast_le_intCast.1 ?_
      rw [← es, Rat.intCast_mul, ← eu, ← uQ_eq]
      exact Rat.mul_le_mul_of_nonneg_right (Rat.mul_le_mul_of_nonneg_right hs (Rat.le_of_lt uQ_pos)) (Rat.le_of_lt uQ_pos)
    have k := rz_mono 149 k1
    rw [rz_exact hu 149] at k
    exact (q_le hrr eu).2 k
  · obtain ⟨u, hu, eu⟩ := hz
    have k1 : u * ((2 ^ 149 : Nat) : Int) ≤ v * w := by
      refine Rat.intCast_le_intCast.1 ?_
      rw [← es, Rat.intCast_mul, ← eu, ← uQ_eq]
      exact Rat.mul_le_mul_of_nonneg_right (Rat.mul_le_mul_of_nonneg_right hs (Rat.le_of_lt uQ_pos)) (Rat.le_of_lt uQ_pos)
    have k := rz_mono 149 k1
    rw [rz_exact hu 149] at k
    exact (q_le eu hrr).2 k
/-- A quotient. -/
theorem RV.div {x y : F} {p q : Rat} (hx : RV x p) (hy : RV y q) (hq : 0 < q) (h1 : p / q ≤ 1267650600228229401496703205376) (h2 : -(p / q) ≤ 1267650600228229401496703205376) :
    ∃ r, RV (fdiv x y) r ∧ Near r (p / q) ∧ (0 ≤ p → 0 ≤ r) ∧ (p ≤ 0 → r ≤ 0) := by
  obtain ⟨v, hv, ev⟩ := hx
  obtain ⟨w, hw, ew⟩ := hy
  have up := uQ_pos
  have hwp : 0 < w := (q_lt (p := 0) (v := 0) (by rw [Rat.zero_mul]; rfl) ew).1 hq
  have hpq : p / q * q = p := Rat.div_mul_cancel (by grind)
  have hwR : (0 : Rat) < (w : Rat) := by rw [← ew]; exact Rat.mul_pos hq up
  have habs : ∀ B, p / q ≤ B → -(p / q) ≤ B → ((v.natAbs : Int) : Rat) ≤ B * (w : Rat) := by
    intro B b1 b2
    have a1 := abs_q (B := B * q) ev (by rw [← hpq]; exact Rat.mul_le_mul_of_nonneg_right b1 (Rat.le_of_lt hq)) (by rw [← hpq, ← Rat.neg_mul]; exact Rat.mul_le_mul_of_nonneg_right b2 (Rat.le_of_lt hq))
    rw [Rat.mul_assoc, ew] at a1
    exact a1
  have hb : (v.natAbs : Int) ≤ w * (2 ^ 100 : Nat) := by
    refine Rat.intCast_le_intCast.1 ?_
    rw [Rat.intCast_mul, Rat.mul_comm]
    exact habs (((2 ^ 100 : Nat) : Int) : Rat) h1 h2
  obtain ⟨r, hr, r0, r1, n1, n2⟩ := div_val hv hw hwp hb
  have hrr : (r : Rat) / uQ * uQ = (r : Rat) := Rat.div_mul_cancel (by grind)
  have z0 : (0 : Rat) * uQ = ((0 : Int) : Rat) := by rw [Rat.zero_mul]; rfl
  refine ⟨(r : Rat) / uQ, ⟨r, hr, hrr⟩, fun B b1 b2 => ?_, fun h => (q_le z0 hrr).2 (r0 ((q_le z0 ev).1 h)), fun h => (q_le hrr z0).2 (r1 ((q_le ev z0).1 h))⟩
  have hB := habs B b1 b2
  have m1 := Rat.intCast_le_intCast.2 n1
  have m2 := Rat.intCast_le_intCast.2 n2
  rw [Rat.intCast_mul, Rat.intCast_sub, Rat.intCast_add, Rat.intCast_mul, Rat.intCast_mul, Rat.intCast_mul, Rat.intCast_mul, ← uQ_eq] at m1 m2
  have e22 : (((2 ^ 22 : Nat) : Int) : Rat) = 4194304 := by decide +kernel
  have e23 : ((8388608 : Int) : Rat) = 8388608 := rfl
  rw [e22, e23] at m1 m2
  have hBw := Rat.mul_le_mul_of_nonneg_right hB (Rat.le_of_lt up)
  have ev2 : (v : Rat) = p / q * (w : Rat) := by rw [← ev, ← ew, ← Rat.mul_assoc, hpq]
  rw [← hrr, ev2] at m1 m2
  generalize (r : Rat) / uQ = R at m1 m2 ⊢
  generalize p / q = Q at m1 m2 ⊢
  generalize ((v.natAbs : Int) : Rat) = N at *
  generalize (w : Rat) = W at *
  have hu : 1 / uQ * uQ = 1 := Rat.div_mul_cancel (by grind)
  generalize uQ = U at *
  have g1 : 8388608 * ((R - Q) * U) ≤ B * U + 4194304 := Rat.le_of_mul_le_mul_right (c := W) (by grind) hwR
  have g2 : 8388608 * ((Q - R) * U) ≤ B * U + 4194304 := Rat.le_of_mul_le_mul_right (c := W) (by grind) hwR
  constructor
  · refine Rat.le_of_mul_le_mul_right (c := U) ?_ up
    rw [Rat.add_mul, hu]
    grind
  · refine Rat.le_of_mul_le_mul_right (c := U) ?_ up
    rw [Rat.add_mul, hu]
    grind
end Go.Proofs.Ytfcphfdfpjmgiaa
