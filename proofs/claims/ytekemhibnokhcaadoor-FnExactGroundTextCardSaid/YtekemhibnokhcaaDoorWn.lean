/- Numbers of wells: whole numbers as floats; doubling. -/
import Derived.Test.YtekemhibnokhcaaDoorVal
namespace Go.Proofs.YtekemhibnokhcaaDoor
open Go.RowKit

theorem even_cut (s : Bool) (n k : Nat) : Ieee.Toward.even.cut s n k = n / 2 ^ min k (n.log2 + 2) + (decide (2 ^ min k (n.log2 + 2) < 2 * (n % 2 ^ min k (n.log2 + 2))) || 2 ^ min k (n.log2 + 2) == 2 * (n % 2 ^ min k (n.log2 + 2)) && n / 2 ^ min k (n.log2 + 2) % 2 == 1).toNat := by
  unfold Ieee.Toward.cut
  simp only [Nat.one_shiftLeft]

theorem cut_shl (s : Bool) (n d k : Nat) (h : n ≠ 0) : Ieee.Toward.even.cut s (n <<< d) (k + d) = Ieee.Toward.even.cut s n k := by
  rw [even_cut, even_cut, log2_shl n d h]
  have e : min (k + d) (n.log2 + d + 2) = min k (n.log2 + 2) + d := by omega
  rw [e]
  generalize min k (n.log2 + 2) = g
  have hp : 0 < 2 ^ d := Nat.two_pow_pos d
  have e1 : n <<< d / 2 ^ (g + d) = n / 2 ^ g := by rw [Nat.shiftLeft_eq, Nat.pow_add]; exact Nat.mul_div_mul_right _ _ hp
  have e2 : n <<< d % 2 ^ (g + d) = n % 2 ^ g * 2 ^ d := by rw [Nat.shiftLeft_eq, Nat.pow_add]; exact Nat.mul_mod_mul_right _ _ _
  rw [e1, e2, Nat.pow_add]
  generalize n % 2 ^ g = r
  generalize 2 ^ g = G
  generalize 2 ^ d = D at hp
  have e3 : decide (G * D < 2 * (r * D)) = decide (G < 2 * r) := by
    rw [← Nat.mul_assoc]
    by_cases h : G < 2 * r
    · rw [decide_eq_true h, decide_eq_true (Nat.mul_lt_mul_of_pos_right h hp)]
    · rw [decide_eq_false h, decide_eq_false]
      intro h2
      exact h (Nat.lt_of_mul_lt_mul_right h2)
  have e4 : (G * D == 2 * (r * D)) = (G == 2 * r) := by
    rw [← Nat.mul_assoc]
    by_cases h : G = 2 * r
    · subst h; simp
    · have h2 : ¬ G * D = 2 * r * D := fun e => h (Nat.eq_of_mul_eq_mul_right hp e)
      rw [beq_eq_false_iff_ne.2 h, beq_eq_false_iff_ne.2 h2]
  rw [e3, e4]

/-- A number in other digits is rounded alike. -/
theorem nearest_shl (s : Bool) (N d : Nat) (e : Int) : Ieee.single.nearest s (N <<< d) (e - d) = Ieee.single.nearest s N e := by
  by_cases h0 : N = 0
  · subst h0; rw [Nat.zero_shiftLeft]; unfold Ieee.Format.nearest; rw [if_pos rfl, if_pos rfl]
  · have hne : N <<< d ≠ 0 := by rw [Nat.shiftLeft_eq]; exact Nat.mul_ne_zero h0 (Nat.pos_iff_ne_zero.1 (Nat.two_pow_pos d))
    unfold Ieee.Format.nearest
    rw [if_neg h0, if_neg hne]
    simp only [log2_shl N d h0]
    have e1 : e - (d : Int) + ((N.log2 + d : Nat) : Int) - (Ieee.single.fractionBits : Int) = e + (N.log2 : Int) - (Ieee.single.fractionBits : Int) := by omega
    rw [e1]
    generalize max (e + (N.log2 : Int) - (Ieee.single.fractionBits : Int)) Ieee.single.leastPlace = last
    have hc : Ieee.Toward.even.cut s (N <<< d <<< (e - d - last).toNat) (last - (e - d)).toNat = Ieee.Toward.even.cut s (N <<< (e - last).toNat) (last - e).toNat := by
      rcases Int.lt_or_le e last with h | h
      · rw [show (e - d - last).toNat = 0 by omega, show (e - last).toNat = 0 by omega, show (last - (e - d)).toNat = (last - e).toNat + d by omega]
        exact cut_shl s N d _ h0
      · rcases Int.lt_or_le (e - d) last with h2 | h2
        · rw [show (e - d - last).toNat = 0 by omega, show (last - e).toNat = 0 by omega]
          have h3 : N <<< d = N <<< (e - last).toNat <<< (last - (e - d)).toNat := by rw [← Nat.shiftLeft_add]; congr 1; omega
          have h4 : N <<< (e - last).toNat ≠ 0 := by rw [Nat.shiftLeft_eq]; exact Nat.mul_ne_zero h0 (Nat.pos_iff_ne_zero.1 (Nat.two_pow_pos _))
          rw [Nat.shiftLeft_zero, h3, cut_exact s _ _ h4, cut_zero]
        · rw [show (last - (e - d)).toNat = 0 by omega, show (last - e).toNat = 0 by omega, ← Nat.shiftLeft_add, show d + (e - d - last).toNat = (e - last).toNat by omega]
    rw [hc]

/-- The digits that a finite number is read as. -/
theorem read_canon {b : Nat} {s : Bool} {m : Nat} {e : Int} (h : Ieee.single.read b = .number s m e) : -149 ≤ e ∧ ((e = -149 ∧ m < 8388608) ∨ (8388608 ≤ m ∧ m < 16777216)) ∧ (e + 149).toNat * 8388608 + m = b % 2147483648 ∧ b % 2147483648 < 2139095040 := by
  by_cases hb : b % 2147483648 < 2139095040
  · obtain ⟨m', e', h1, h2, h3, h4⟩ := read_rung b hb
    rw [h] at h1
    cases h1
    exact ⟨h3, h4, h2, hb⟩
  · exfalso
    have hbn : Ieee.single.binade = 8388608 := rfl
    have hi : Ieee.single.infRung = 2139095040 := rfl
    have hs : Ieee.single.signWeight = 2147483648 := rfl
    unfold Ieee.Format.read at h
    simp only [hbn, hi, hs] at h
    rw [if_neg (by omega), if_neg (by omega)] at h
    split at h <;> cases h

/-- The number of a whole number. -/
def ofI (n : Int) : F := some (Ieee.single.nearest (n < 0) n.natAbs 0)

theorem word_mod (s : Bool) {r : Nat} (h : r < 2147483648) : Ieee.single.word s r % 2147483648 = r ∧ (Ieee.single.word s r / 2147483648 % 2 == 1) = s := by
  have hs : Ieee.single.signWeight = 2147483648 := rfl
  unfold Ieee.Format.word
  rw [hs]
  cases s
  · rw [if_neg (by decide)]
    refine ⟨Nat.mod_eq_of_lt h, ?_⟩
    rw [Nat.div_eq_of_lt h]; rfl
  · rw [if_pos rfl]
    refine ⟨by rw [Nat.add_mod_left]; exact Nat.mod_eq_of_lt h, ?_⟩
    have : (2147483648 + r) / 2147483648 = 1 := by omega
    rw [this]; rfl

/-- Digits of the format are read as they were written. -/
theorem read_nearest (s : Bool) {m : Nat} {e : Int} (he : -149 ≤ e) (h2 : e ≤ 104) (hm : (e = -149 ∧ m < 8388608) ∨ (8388608 ≤ m ∧ m < 16777216)) : Ieee.single.read (Ieee.single.nearest s m e) = .number s m e := by
  have hr : (e + 149).toNat * 8388608 + m < 2139095040 := by
    rcases hm with ⟨h, h3⟩ | ⟨_, h3⟩
    · subst h; simp; omega
    · have : (e + 149).toNat ≤ 253 := by omega
      omega
  have h := nearest_same s m 0 _ e rfl hr he hm
  rw [Nat.shiftLeft_zero, show e - ((0 : Nat) : Int) = e by omega] at h
  rw [h]
  obtain ⟨w1, w2⟩ := word_mod s (r := (e + 149).toNat * 8388608 + m) (by omega)
  obtain ⟨m', e', r1, r2, r3, r4⟩ := read_rung (Ieee.single.word s ((e + 149).toNat * 8388608 + m)) (by omega)
  rw [r1, w2]
  rw [w1] at r2
  have : e' = e ∧ m' = m := by
    rcases hm with ⟨a1, a2⟩ | ⟨a1, a2⟩ <;> rcases r4 with ⟨b1, b2⟩ | ⟨b1, b2⟩ <;> omega
  rw [this.1, this.2]

/-- A whole number with fewer than 25 digits is read as it is. -/
theorem ofI_read (n : Int) (h : n.natAbs < 16777216) : ∃ b j : Nat, ofI n = some b ∧ Ieee.single.read b = .number (n < 0) (n.natAbs <<< j) (0 - (j : Int)) ∧ j ≤ 149 := by
  by_cases h0 : n.natAbs = 0
  · refine ⟨_, 149, rfl, ?_, Nat.le_refl _⟩
    rw [h0, Nat.zero_shiftLeft]
    exact nearest_zero _ _
  · have hl : n.natAbs.log2 ≤ 23 := by have := (Nat.log2_lt h0 (k := 24)).2 (by omega); omega
    have h1 : 2 ^ n.natAbs.log2 ≤ n.natAbs := Nat.log2_self_le h0
    have h2 : n.natAbs < 2 ^ (n.natAbs.log2 + 1) := Nat.lt_log2_self
    refine ⟨_, 23 - n.natAbs.log2, rfl, ?_, by omega⟩
    rw [← nearest_shl (decide (n < 0)) n.natAbs (23 - n.natAbs.log2) 0]
    refine read_nearest _ (by omega) (by omega) (.inr ?_)
    rw [Nat.shiftLeft_eq]
    constructor
    · calc 8388608 = 2 ^ n.natAbs.log2 * 2 ^ (23 - n.natAbs.log2) := by rw [← Nat.pow_add, show n.natAbs.log2 + (23 - n.natAbs.log2) = 23 by omega]
        _ ≤ _ := Nat.mul_le_mul_right _ h1
    · calc _ < 2 ^ (n.natAbs.log2 + 1) * 2 ^ (23 - n.natAbs.log2) := Nat.mul_lt_mul_of_pos_right h2 (Nat.two_pow_pos _)
        _ = 16777216 := by rw [← Nat.pow_add, show n.natAbs.log2 + 1 + (23 - n.natAbs.log2) = 24 by omega]

theorem ofI_sq (n : Int) (h : n.natAbs < 16777216) : fmul (ofI n) (ofI n) = ofI (n * n) := by
  obtain ⟨b, j, hb, hr, _⟩ := ofI_read n h
  rw [hb]
  show ((Ieee.single.read b).product (Ieee.single.read b)).map Ieee.single.write = _
  rw [hr]
  simp only [Ieee.Datum.product, Option.map_some, Ieee.Format.write]
  have e1 : (decide (n < 0) ^^ decide (n < 0)) = decide (n * n < 0) := by
    have h2 : 0 ≤ n * n := by rcases Int.le_total 0 n with h | h; exact Int.mul_nonneg h h; exact Int.mul_nonneg_of_nonpos_of_nonpos h h
    rw [Bool.xor_self, decide_eq_false (by omega)]
  have e2 : n.natAbs <<< j * n.natAbs <<< j = (n * n).natAbs <<< (j + j) := by
    rw [Int.natAbs_mul, Nat.shiftLeft_eq, Nat.shiftLeft_eq, Nat.pow_add]
    rw [Nat.mul_assoc, Nat.mul_comm (2 ^ j), Nat.mul_assoc, Nat.mul_assoc]
  rw [e1, e2, show (0 - (j : Int) + (0 - (j : Int))) = 0 - ((j + j : Nat) : Int) by omega, nearest_shl]
  rfl

theorem ofI_add (p q : Nat) (hp : p < 16777216) (hq : q < 16777216) : fadd (ofI p) (ofI q) = ofI ((p : Int) + q) := by
  obtain ⟨a, i, ha, ra, _⟩ := ofI_read p (by omega)
  obtain ⟨b, j, hb, rb, _⟩ := ofI_read q (by omega)
  rw [ha, hb]
  show ((Ieee.single.read a).sum (Ieee.single.read b)).map Ieee.single.write = _
  rw [ra, rb]
  have s1 : decide ((p : Int) < 0) = false := decide_eq_false (by omega)
  have s2 : decide ((q : Int) < 0) = false := decide_eq_false (by omega)
  have s3 : decide ((p : Int) + q < 0) = false := decide_eq_false (by omega)
  rw [s1, s2]
  have n1 : (p : Int).natAbs = p := by omega
  have n2 : (q : Int).natAbs = q := by omega
  rw [n1, n2]
  have key : ∀ k : Nat, i ≤ k → j ≤ k → min (0 - (i : Int)) (0 - (j : Int)) = 0 - (k : Int) → Option.map Ieee.single.write ((Ieee.Datum.number false (p <<< i) (0 - (i : Int))).sum (.number false (q <<< j) (0 - (j : Int)))) = ofI ((p : Int) + q) := by
    intro k hi hj hk
    simp only [Ieee.Datum.sum, Option.map_some, hk, Ieee.Format.write]
    have e1 : (0 - (i : Int) - (0 - (k : Int))).toNat = k - i := by omega
    have e2 : (0 - (j : Int) - (0 - (k : Int))).toNat = k - j := by omega
    rw [e1, e2]
    have e3 : Ieee.signed false (p <<< i) (k - i) + Ieee.signed false (q <<< j) (k - j) = (((p + q) <<< k : Nat) : Int) := by
      unfold Ieee.signed
      rw [← Nat.shiftLeft_add, ← Nat.shiftLeft_add, show i + (k - i) = k by omega, show j + (k - j) = k by omega]
      simp only [Nat.shiftLeft_eq]
      rw [Nat.add_mul]
      simp
    rw [e3, Int.natAbs_natCast]
    have e4 : (if (((p + q) <<< k : Nat) : Int) = 0 then false && false else decide ((((p + q) <<< k : Nat) : Int) < 0)) = false := by
      generalize (p + q) <<< k = N
      split
      · rfl
      · exact decide_eq_false (by omega)
    rw [e4, nearest_shl]
    unfold ofI
    rw [s3, show ((p : Int) + q).natAbs = p + q by omega]
  rcases Nat.le_total i j with h | h
  · exact key j h (Nat.le_refl _) (by omega)
  · exact key i (Nat.le_refl _) h (by omega)

theorem ofI_zero (n : Nat) (h : n < 16777216) : feq (ofI n) (some 0) = decide (n = 0) := by
  obtain ⟨b, j, hb, hr, _⟩ := ofI_read n (by omega)
  have ho : ford (some b) (some 0) = (Ieee.single.read b).order (Ieee.single.read 0) := rfl
  unfold feq
  rw [hb, ho, hr, read0]
  simp only [Ieee.Datum.order]
  have s1 : decide ((n : Int) < 0) = false := decide_eq_false (by omega)
  rw [s1]
  by_cases h0 : n = 0
  · subst h0
    simp [Ieee.signed]
  · rw [decide_eq_false h0]
    have : 0 < (((n : Int).natAbs <<< j) <<< (0 - (j : Int) - min (0 - (j : Int)) (-149)).toNat) := by
      rw [Nat.shiftLeft_eq, Nat.shiftLeft_eq]
      exact Nat.mul_pos (Nat.mul_pos (by omega) (Nat.two_pow_pos _)) (Nat.two_pow_pos _)
    generalize (((n : Int).natAbs <<< j) <<< (0 - (j : Int) - min (0 - (j : Int)) (-149)).toNat) = M at this
    unfold Ieee.signed
    simp
    exact h0

/-- A normal positive number. -/
def Nm (x : F) (m : Nat) (e : Int) : Prop := ∃ b, x = some b ∧ Ieee.single.read b = .number false m e ∧ 8388608 ≤ m ∧ m < 16777216 ∧ -149 ≤ e
theorem read_two : Ieee.single.read 1073741824 = .number false 8388608 (-22) := by decide
theorem nm_double {x : F} {m : Nat} {e : Int} (h : Nm x m e) (he : e < 104) : Nm (fmul x (some 1073741824)) m (e + 1) := by
  obtain ⟨b, rfl, hr, h1, h2, h3⟩ := h
  refine ⟨Ieee.single.nearest false m (e + 1), ?_, read_nearest _ (by omega) (by omega) (.inr ⟨h1, h2⟩), h1, h2, by omega⟩
  show ((Ieee.single.read b).product (Ieee.single.read 1073741824)).map Ieee.single.write = _
  rw [hr, read_two]
  simp only [Ieee.Datum.product, Option.map_some, Ieee.Format.write, Option.some.injEq, Bool.xor_false]
  rw [← nearest_shl false m 23 (e + 1), Nat.shiftLeft_eq]
  congr 1
  omega
end Go.Proofs.YtekemhibnokhcaaDoor
