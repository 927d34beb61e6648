/- Rounding, by whole numbers: what a sum, a difference and a product are, how near they are to the exact ones, and that they rise with these. -/
import Derived.Test.YtonmdkhfongmhaaVc
namespace Go.Proofs.Ytonmdkhfongmhaa
open Go.RowKit

theorem cut_eq (s : Bool) (n d : Nat) : Ieee.Toward.even.cut s n d = n / 2 ^ d + (decide (2 ^ d < 2 * (n % 2 ^ d)) || 2 ^ d == 2 * (n % 2 ^ d) && n / 2 ^ d % 2 == 1).toNat := by
  rw [even_cut]
  rcases Nat.lt_or_ge (n.log2 + 2) d with h | h
  · have e1 : min d (n.log2 + 2) = n.log2 + 2 := by omega
    rw [e1]
    have hn : n < 2 ^ (n.log2 + 1) := Nat.lt_log2_self
    have h2 : 2 * n < 2 ^ (n.log2 + 2) := by rw [Nat.pow_succ]; omega
    have h3 : 2 ^ (n.log2 + 2) ≤ 2 ^ d := Nat.pow_le_pow_right (by decide) (by omega)
    rw [Nat.div_eq_of_lt (by omega : n < 2 ^ d), Nat.div_eq_of_lt (by omega : n < 2 ^ (n.log2 + 2)), Nat.mod_eq_of_lt (by omega : n < 2 ^ d), Nat.mod_eq_of_lt (by omega : n < 2 ^ (n.log2 + 2))]
    rw [decide_eq_false (by omega), decide_eq_false (by omega)]
    simp
  · rw [show min d (n.log2 + 2) = d by omega]
theorem cut_near (s : Bool) (n d : Nat) : 2 * (Ieee.Toward.even.cut s n d * 2 ^ d) ≤ 2 * n + 2 ^ d ∧ 2 * n ≤ 2 * (Ieee.Toward.even.cut s n d * 2 ^ d) + 2 ^ d := by
  rw [cut_eq]
  have hd := Nat.div_add_mod n (2 ^ d)
  have hp : 0 < 2 ^ d := Nat.two_pow_pos d
  have hm := Nat.mod_lt n hp
  generalize n / 2 ^ d = q at hd
  generalize n % 2 ^ d = r at hd hm
  generalize 2 ^ d = D at hd hp hm
  rw [Nat.mul_comm] at hd
  by_cases h : (decide (D < 2 * r) || D == 2 * r && q % 2 == 1) = true
  · rw [h]
    have h2 : D ≤ 2 * r := by
      simp only [Bool.or_eq_true, Bool.and_eq_true, decide_eq_true_eq, beq_iff_eq] at h
      omega
    show 2 * ((q + 1) * D) ≤ _ ∧ _ ≤ 2 * ((q + 1) * D) + D
    rw [Nat.add_mul, Nat.one_mul]
    omega
  · rw [Bool.not_eq_true] at h
    rw [h]
    have h2 : 2 * r ≤ D := by
      simp only [Bool.or_eq_false_iff, decide_eq_false_iff_not] at h
      omega
    show 2 * ((q + 0) * D) ≤ _ ∧ _ ≤ 2 * ((q + 0) * D) + D
    rw [Nat.add_zero]
    omega
theorem cut_mono (s t : Bool) {n n' : Nat} (d : Nat) (h : n ≤ n') : Ieee.Toward.even.cut s n d ≤ Ieee.Toward.even.cut t n' d := by
  rw [cut_eq, cut_eq]
  have hp : 0 < 2 ^ d := Nat.two_pow_pos d
  have hq : n / 2 ^ d ≤ n' / 2 ^ d := Nat.div_le_div_right h
  have hd := Nat.div_add_mod n (2 ^ d)
  have hd' := Nat.div_add_mod n' (2 ^ d)
  have hb : ∀ b : Bool, b.toNat ≤ 1 := fun b => by cases b <;> decide
  by_cases he : n / 2 ^ d = n' / 2 ^ d
  · rw [he] at hd ⊢
    have hr : n % 2 ^ d ≤ n' % 2 ^ d := by omega
    generalize n' / 2 ^ d = q
    generalize n % 2 ^ d = r at hr
    generalize n' % 2 ^ d = r' at hr
    generalize 2 ^ d = D
    refine Nat.add_le_add_left ?_ q
    by_cases h1 : (decide (D < 2 * r) || D == 2 * r && q % 2 == 1) = true
    · have : (decide (D < 2 * r') || D == 2 * r' && q % 2 == 1) = true := by
        simp only [Bool.or_eq_true, Bool.and_eq_true, decide_eq_true_eq, beq_iff_eq] at h1 ⊢
        omega
      rw [h1, this]
      exact Nat.le_refl _
    · rw [Bool.not_eq_true] at h1
      rw [h1]; exact Nat.zero_le _
  · have := hb (decide (2 ^ d < 2 * (n % 2 ^ d)) || 2 ^ d == 2 * (n % 2 ^ d) && n / 2 ^ d % 2 == 1)
    omega
theorem cut_whole (s : Bool) (q d : Nat) : Ieee.Toward.even.cut s (q * 2 ^ d) d = q := by
  rw [cut_eq]
  have hp : 0 < 2 ^ d := Nat.two_pow_pos d
  rw [Nat.mul_div_cancel _ hp, Nat.mul_mod_left]
  rw [decide_eq_false (by omega), show (2 ^ d == 2 * 0) = false from beq_eq_false_iff_ne.2 (by omega)]
  rfl

/-- The places that fall away from 'P', of which 'b' do in any case. -/
def rndK (b P : Nat) : Nat := max (P.log2 - 23) b
/-- 'P / 2 ^ b', rounded: in units of the least number. -/
def rnd (b P : Nat) : Nat := Ieee.Toward.even.cut false P (rndK b P) * 2 ^ (rndK b P - b)
theorem rnd_zero (b : Nat) : rnd b 0 = 0 := by
  unfold rnd
  have := cut_whole false 0 (rndK b 0)
  rw [Nat.zero_mul] at this
  rw [this, Nat.zero_mul]
theorem log_mono {P Q : Nat} (h : P ≤ Q) : P.log2 ≤ Q.log2 := by
  by_cases h0 : P = 0
  · subst h0; exact Nat.zero_le _
  · exact (Nat.le_log2 (by omega)).2 (Nat.le_trans (Nat.log2_self_le h0) h)
theorem cut_top (s : Bool) (P k : Nat) (h : P.log2 - 23 ≤ k) : Ieee.Toward.even.cut s P k ≤ 16777216 := by
  have h1 : P ≤ 16777216 * 2 ^ k := by
    rw [show (16777216 : Nat) = 2 ^ 24 from rfl, ← Nat.pow_add]
    exact Nat.le_of_lt (Nat.lt_of_lt_of_le Nat.lt_log2_self (Nat.pow_le_pow_right (by decide) (by omega)))
  have := cut_mono s s k h1
  rwa [cut_whole] at this
theorem cut_low (s : Bool) (P k : Nat) (h : k + 23 ≤ P.log2) : 8388608 ≤ Ieee.Toward.even.cut s P k := by
  have h0 : P ≠ 0 := by
    intro h0; subst h0
    have : (0 : Nat).log2 = 0 := by decide
    omega
  have h1 : 8388608 * 2 ^ k ≤ P := by
    rw [show (8388608 : Nat) = 2 ^ 23 from rfl, ← Nat.pow_add]
    exact Nat.le_trans (Nat.pow_le_pow_right (by decide) (by omega)) (Nat.log2_self_le h0)
  have := cut_mono s s k h1
  rwa [cut_whole] at this
theorem rnd_mono (b : Nat) {P Q : Nat} (h : P ≤ Q) : rnd b P ≤ rnd b Q := by
  have hl := log_mono h
  unfold rnd
  by_cases he : rndK b P = rndK b Q
  · rw [he]
    exact Nat.mul_le_mul_right _ (cut_mono _ _ _ h)
  · unfold rndK at *
    have hk : max (P.log2 - 23) b < max (Q.log2 - 23) b := by omega
    have h1 := cut_top false P (max (P.log2 - 23) b) (by omega)
    have h2 := cut_low false Q (max (Q.log2 - 23) b) (by omega)
    refine Nat.le_trans (Nat.mul_le_mul_right _ h1) (Nat.le_trans ?_ (Nat.mul_le_mul_right _ h2))
    rw [show (16777216 : Nat) = 8388608 * 2 from rfl, Nat.mul_assoc]
    refine Nat.mul_le_mul_left _ ?_
    rw [Nat.mul_comm, ← Nat.pow_succ]
    exact Nat.pow_le_pow_right (by decide) (by omega)
theorem rnd_exact (b n j : Nat) (hn : n ≤ 16777216) (hj : b ≤ j) : rnd b (n * 2 ^ j) = n * 2 ^ (j - b) := by
  suffices ∀ n j, n < 16777216 → b ≤ j → rnd b (n * 2 ^ j) = n * 2 ^ (j - b) by
    rcases Nat.lt_or_ge n 16777216 with h | h
    · exact this n j h hj
    · have e : n = 8388608 * 2 := by omega
      subst e
      rw [Nat.mul_assoc, Nat.mul_comm 2, ← Nat.pow_succ, this 8388608 (j + 1) (by omega) (by omega), show j + 1 - b = (j - b) + 1 by omega, Nat.pow_succ]
      rw [Nat.mul_assoc, Nat.mul_comm 2]
  intro n j hn hj
  by_cases h0 : n = 0
  · subst h0; rw [Nat.zero_mul, Nat.zero_mul]; exact rnd_zero b
  · have hl : (n * 2 ^ j).log2 = n.log2 + j := by rw [← Nat.shiftLeft_eq]; exact log2_shl n j h0
    have hn2 : n.log2 < 24 := (Nat.log2_lt h0).2 hn
    unfold rnd
    have hk : rndK b (n * 2 ^ j) ≤ j := by unfold rndK; omega
    have hb : b ≤ rndK b (n * 2 ^ j) := by unfold rndK; omega
    generalize rndK b (n * 2 ^ j) = k at hk hb
    have e : n * 2 ^ j = n * 2 ^ (j - k) * 2 ^ k := by rw [Nat.mul_assoc, ← Nat.pow_add, show j - k + k = j by omega]
    rw [e, cut_whole, Nat.mul_assoc, ← Nat.pow_add, show j - k + (k - b) = j - b by omega]
theorem rnd_le {b P n j : Nat} (h : P ≤ n * 2 ^ (j + b)) (hn : n ≤ 16777216) : rnd b P ≤ n * 2 ^ j := by
  have := rnd_mono b h
  rw [rnd_exact b n (j + b) hn (by omega), show j + b - b = j by omega] at this
  exact this
theorem rnd_ge {b P n j : Nat} (h : n * 2 ^ (j + b) ≤ P) (hn : n ≤ 16777216) : n * 2 ^ j ≤ rnd b P := by
  have := rnd_mono b h
  rw [rnd_exact b n (j + b) hn (by omega), show j + b - b = j by omega] at this
  exact this
/-- How near: by a part in 2 ^ 24, or half a unit. -/
theorem rnd_near (b P : Nat) : 16777216 * (rnd b P * 2 ^ b) ≤ 16777216 * P + max P (2 ^ (b + 23)) ∧ 16777216 * P ≤ 16777216 * (rnd b P * 2 ^ b) + max P (2 ^ (b + 23)) := by
  obtain ⟨h1, h2⟩ := cut_near false P (rndK b P)
  have e : rnd b P * 2 ^ b = Ieee.Toward.even.cut false P (rndK b P) * 2 ^ (rndK b P) := by
    unfold rnd
    rw [Nat.mul_assoc, ← Nat.pow_add, show rndK b P - b + b = rndK b P by unfold rndK; omega]
  rw [e]
  generalize Ieee.Toward.even.cut false P (rndK b P) * 2 ^ (rndK b P) = C at h1 h2
  have h3 : 8388608 * 2 ^ (rndK b P) ≤ max P (2 ^ (b + 23)) := by
    rcases Nat.lt_or_ge b (P.log2 - 23) with h | h
    · have hk : rndK b P = P.log2 - 23 := by unfold rndK; omega
      rw [hk, show (8388608 : Nat) = 2 ^ 23 from rfl, ← Nat.pow_add, show 23 + (P.log2 - 23) = P.log2 by omega]
      have h0 : P ≠ 0 := by
        intro h0; subst h0
        have : (0 : Nat).log2 = 0 := by decide
        omega
      exact Nat.le_trans (Nat.log2_self_le h0) (Nat.le_max_left _ _)
    · have hk : rndK b P = b := by unfold rndK; omega
      rw [hk, show (8388608 : Nat) = 2 ^ 23 from rfl, ← Nat.pow_add, Nat.add_comm 23 b]
      exact Nat.le_max_right _ _
  omega
/-- A sum is nearer: with nothing to fall away it is exact. -/
theorem rnd_near0 (P : Nat) : 16777216 * rnd 0 P ≤ 16777216 * P + P ∧ 16777216 * P ≤ 16777216 * rnd 0 P + P := by
  rcases Nat.lt_or_ge P 16777216 with h | h
  · have := rnd_exact 0 P 0 (by omega) (Nat.le_refl _)
    rw [Nat.pow_zero, Nat.mul_one] at this
    rw [this]; omega
  · obtain ⟨h1, h2⟩ := rnd_near 0 P
    have : (2 : Nat) ^ (0 + 23) = 8388608 := rfl
    rw [Nat.pow_zero, Nat.mul_one, this] at h1 h2
    omega

theorem read_word_of (s : Bool) {r : Nat} (hr : r < 2139095040) : ∃ m e, Ieee.single.read (Ieee.single.word s r) = .number s m e ∧ (e + 149).toNat * 8388608 + m = r ∧ -149 ≤ e ∧ ((e = -149 ∧ m < 8388608) ∨ (8388608 ≤ m ∧ m < 16777216)) := by
  obtain ⟨h1, h2⟩ := word_mod s (r := r) (by omega)
  obtain ⟨m, e, h3, h4, h5, h6⟩ := read_rung (Ieee.single.word s r) (by omega)
  rw [h2] at h3
  exact ⟨m, e, h3, by omega, h5, h6⟩

theorem nearest_rnd (s : Bool) (b P : Nat) (h0 : P ≠ 0) (hl : P.log2 ≤ b + 275) :
    ∃ m e, Ieee.single.read (Ieee.single.nearest s P (-149 - (b : Int))) = .number s m e ∧ -149 ≤ e ∧ m * 2 ^ (e + 149).toNat = rnd b P := by
  have hf : Ieee.single.fractionBits = 23 := rfl
  have hb : Ieee.single.binade = 8388608 := rfl
  have hi : Ieee.single.infRung = 2139095040 := rfl
  have hll : Ieee.single.leastPlace = -149 := rfl
  have e0 : Ieee.single.nearest s P (-149 - (b : Int)) = Ieee.single.word s (min ((rndK b P - b) * 8388608 + Ieee.Toward.even.cut s P (rndK b P)) 2139095040) := by
    unfold Ieee.Format.nearest
    rw [if_neg h0]
    simp only [hf, hb, hi, hll]
    unfold rndK
    have e1 : (-149 - (b : Int) - max (-149 - (b : Int) + (P.log2 : Int) - ((23 : Nat) : Int)) (-149)).toNat = 0 := by omega
    have e2 : (max (-149 - (b : Int) + (P.log2 : Int) - ((23 : Nat) : Int)) (-149) - (-149 - (b : Int))).toNat = max (P.log2 - 23) b := by omega
    have e3 : (max (-149 - (b : Int) + (P.log2 : Int) - ((23 : Nat) : Int)) (-149) - -149).toNat = max (P.log2 - 23) b - b := by omega
    rw [e1, e2, e3, Nat.shiftLeft_zero]
  have hs : Ieee.Toward.even.cut s P (rndK b P) = Ieee.Toward.even.cut false P (rndK b P) := by rw [cut_eq, cut_eq]
  have hk1 := cut_top false P (rndK b P) (by unfold rndK; omega)
  have hk2 : b < rndK b P → 8388608 ≤ Ieee.Toward.even.cut false P (rndK b P) := fun h => cut_low false P _ (by unfold rndK at *; omega)
  have hkb : rndK b P - b ≤ 252 := by unfold rndK; omega
  have hkc : b ≤ rndK b P := by unfold rndK; omega
  rw [e0, hs]
  unfold rnd
  generalize rndK b P = k at *
  generalize Ieee.Toward.even.cut false P k = c at *
  rw [Nat.min_eq_left (by omega)]
  obtain ⟨m, e, h1, h2, h3, h4⟩ := read_word_of s (r := (k - b) * 8388608 + c) (by omega)
  refine ⟨m, e, h1, h3, ?_⟩
  by_cases hc : c = 16777216
  · have e5 : (e + 149).toNat = k - b + 1 ∧ m = 8388608 := by omega
    rw [e5.1, e5.2, hc, Nat.pow_succ]
    omega
  · by_cases hz : k - b = 0
    · rw [hz] at h2 ⊢
      have : (e + 149).toNat = 0 ∧ m = c := by omega
      rw [this.1, this.2]
    · have := hk2 (by omega)
      have : (e + 149).toNat = k - b ∧ m = c := by omega
      rw [this.1, this.2]

/-- A whole number, rounded. -/
def rz (b : Nat) (z : Int) : Int := if z < 0 then -((rnd b z.natAbs : Nat) : Int) else ((rnd b z.natAbs : Nat) : Int)
theorem rz_abs (b : Nat) (z : Int) : (rz b z).natAbs = rnd b z.natAbs := by unfold rz; split <;> omega
theorem rz_mono (b : Nat) {y z : Int} (h : y ≤ z) : rz b y ≤ rz b z := by
  unfold rz
  by_cases hy : y < 0
  · rw [if_pos hy]
    by_cases hz : z < 0
    · rw [if_pos hz]
      have := rnd_mono b (P := z.natAbs) (Q := y.natAbs) (by omega)
      omega
    · rw [if_neg hz]; omega
  · rw [if_neg hy, if_neg (by omega)]
    have := rnd_mono b (P := y.natAbs) (Q := z.natAbs) (by omega)
    omega
theorem rz_neg (b : Nat) (z : Int) : rz b (-z) = -rz b z := by
  unfold rz
  rw [Int.natAbs_neg]
  by_cases h0 : z = 0
  · subst h0
    have h1 : ¬ (-(0 : Int)) < 0 := by omega
    have h2 : ¬ ((0 : Int)) < 0 := by omega
    rw [if_neg h1, if_neg h2]
    have := rnd_zero b
    simp only [Int.natAbs_zero, this]; rfl
  · by_cases h : z < 0
    · rw [if_pos h, if_neg (by omega)]; omega
    · rw [if_neg h, if_pos (by omega)]
theorem rz_zero (b : Nat) : rz b 0 = 0 := by
  unfold rz
  rw [if_neg (by omega)]
  have := rnd_zero b
  simp only [Int.natAbs_zero, this]; rfl

theorem signed_eq (s : Bool) (m k : Nat) : Ieee.signed s m k = if s then -((m * 2 ^ k : Nat) : Int) else ((m * 2 ^ k : Nat) : Int) := by
  rw [← Nat.shiftLeft_eq]
  cases s <;> rfl
theorem write_val (s : Bool) (b P : Nat) (hl : P.log2 ≤ b + 275) : Val (some (Ieee.single.write (.number s P (-149 - (b : Int))))) (if s then -((rnd b P : Nat) : Int) else ((rnd b P : Nat) : Int)) := by
  by_cases h0 : P = 0
  · subst h0
    refine ⟨_, s, 0, -149, rfl, nearest_zero s _, by omega, ?_⟩
    rw [rnd_zero, signed_eq, Nat.zero_mul]
  · obtain ⟨m, e, h1, h2, h3⟩ := nearest_rnd s b P h0 hl
    refine ⟨_, s, m, e, rfl, h1, h2, ?_⟩
    rw [signed_eq, h3]

theorem add_val {x y : F} {v w : Int} (hx : Val x v) (hy : Val y w) (hl : (v + w).natAbs.log2 ≤ 275) : Val (fadd x y) (rz 0 (v + w)) := by
  obtain ⟨a, s, m, e, rfl, ha, he, rfl⟩ := hx
  obtain ⟨b, t, n, f, rfl, hb, hf, rfl⟩ := hy
  have h : fadd (some a) (some b) = some (Ieee.single.write (.number (if Ieee.signed s m (e - min e f).toNat + Ieee.signed t n (f - min e f).toNat = 0 then s && t else decide (Ieee.signed s m (e - min e f).toNat + Ieee.signed t n (f - min e f).toNat < 0)) (Ieee.signed s m (e - min e f).toNat + Ieee.signed t n (f - min e f).toNat).natAbs (min e f))) := by
    show ((Ieee.single.read a).sum (Ieee.single.read b)).map Ieee.single.write = _
    rw [ha, hb]; rfl
  rw [h]
  have hsum : Ieee.signed s m (e + 149).toNat + Ieee.signed t n (f + 149).toNat = (Ieee.signed s m (e - min e f).toNat + Ieee.signed t n (f - min e f).toNat) * 2 ^ (min e f + 149).toNat := by
    rw [Int.add_mul, ← signed_add, ← signed_add]
    congr 2 <;> omega
  rw [hsum] at hl ⊢
  generalize Ieee.signed s m (e - min e f).toNat + Ieee.signed t n (f - min e f).toNat = z at hl ⊢
  have hmin : -149 ≤ min e f := by omega
  generalize min e f = p at hmin hl ⊢
  have hk : ((z * 2 ^ (p + 149).toNat : Int)).natAbs = z.natAbs <<< (p + 149).toNat := by
    rw [Int.natAbs_mul, Nat.shiftLeft_eq]
    congr 1
  have hpos : (0 : Int) < 2 ^ (p + 149).toNat := by
    rw [show ((2 : Int) ^ (p + 149).toNat) = ((2 ^ (p + 149).toNat : Nat) : Int) by simp]
    exact Int.ofNat_lt.2 (Nat.two_pow_pos _)
  have hw : ∀ sg : Bool, Ieee.single.write (.number sg z.natAbs p) = Ieee.single.write (.number sg (z.natAbs <<< (p + 149).toNat) (-149 - ((0 : Nat) : Int))) := fun sg => by
    show Ieee.single.nearest _ _ _ = Ieee.single.nearest _ _ _
    have := nearest_shl sg z.natAbs (p + 149).toNat p
    rw [show (-149 - ((0 : Nat) : Int)) = p - ((p + 149).toNat : Int) by omega]
    exact this.symm
  rw [hw]
  rw [hk] at hl
  have := write_val (if z = 0 then s && t else decide (z < 0)) 0 (z.natAbs <<< (p + 149).toNat) (by omega)
  by_cases h0 : z = 0
  · subst h0
    rw [Int.zero_mul, rz_zero]
    rw [if_pos rfl] at this ⊢
    rw [show (0 : Int).natAbs <<< (p + 149).toNat = 0 from Nat.zero_shiftLeft _, rnd_zero] at this
    rw [show (0 : Int).natAbs <<< (p + 149).toNat = 0 from Nat.zero_shiftLeft _]
    cases hst : (s && t) <;> rw [hst] at this <;> simpa using this
  · rw [if_neg h0] at this ⊢
    unfold rz
    rw [hk]
    by_cases hz : z < 0
    · rw [decide_eq_true hz] at this ⊢
      rw [if_pos (Int.mul_neg_of_neg_of_pos hz hpos)]
      exact this
    · rw [decide_eq_false hz] at this ⊢
      rw [if_neg (by have := Int.mul_nonneg (Int.not_lt.1 hz) (Int.le_of_lt hpos); omega)]
      exact this
theorem val_opp {b : Nat} {v : Int} (h : Val (some b) v) : ∃ s m e, Ieee.single.read b = .number s m e ∧ -149 ≤ e ∧ v = Ieee.signed s m (e + 149).toNat := by
  obtain ⟨b', s, m, e, h1, h2, h3, h4⟩ := h
  cases h1
  exact ⟨s, m, e, h2, h3, h4⟩
theorem sub_val {x y : F} {v w : Int} (hx : Val x v) (hy : Val y w) (hl : (v - w).natAbs.log2 ≤ 275) : Val (fsub x y) (rz 0 (v - w)) := by
  obtain ⟨a, s, m, e, rfl, ha, he, rfl⟩ := hx
  obtain ⟨b, t, n, f, rfl, hb, hf, rfl⟩ := hy
  have h : fsub (some a) (some b) = some (Ieee.single.write (.number (if Ieee.signed s m (e - min e f).toNat + Ieee.signed (!t) n (f - min e f).toNat = 0 then s && !t else decide (Ieee.signed s m (e - min e f).toNat + Ieee.signed (!t) n (f - min e f).toNat < 0)) (Ieee.signed s m (e - min e f).toNat + Ieee.signed (!t) n (f - min e f).toNat).natAbs (min e f))) := by
    show ((Ieee.single.read a).sum (Ieee.single.read b).opposite).map Ieee.single.write = _
    rw [ha, hb]; rfl
  rw [h]
  have hneg : -Ieee.signed t n (f + 149).toNat = Ieee.signed (!t) n (f + 149).toNat := by
    rw [signed_eq, signed_eq]; cases t <;> simp
  have hsum : Ieee.signed s m (e + 149).toNat - Ieee.signed t n (f + 149).toNat = (Ieee.signed s m (e - min e f).toNat + Ieee.signed (!t) n (f - min e f).toNat) * 2 ^ (min e f + 149).toNat := by
    rw [Int.sub_eq_add_neg, hneg, Int.add_mul, ← signed_add, ← signed_add]
    congr 2 <;> omega
  rw [hsum] at hl ⊢
  generalize Ieee.signed s m (e - min e f).toNat + Ieee.signed (!t) n (f - min e f).toNat = z at hl ⊢
  have hmin : -149 ≤ min e f := by omega
  generalize min e f = p at hmin hl ⊢
  have hk : ((z * 2 ^ (p + 149).toNat : Int)).natAbs = z.natAbs <<< (p + 149).toNat := by
    rw [Int.natAbs_mul, Nat.shiftLeft_eq]
    congr 1
  have hpos : (0 : Int) < 2 ^ (p + 149).toNat := by
    rw [show ((2 : Int) ^ (p + 149).toNat) = ((2 ^ (p + 149).toNat : Nat) : Int) by simp]
    exact Int.ofNat_lt.2 (Nat.two_pow_pos _)
  have hw : ∀ sg : Bool, Ieee.single.write (.number sg z.natAbs p) = Ieee.single.write (.number sg (z.natAbs <<< (p + 149).toNat) (-149 - ((0 : Nat) : Int))) := fun sg => by
    show Ieee.single.nearest _ _ _ = Ieee.single.nearest _ _ _
    have := nearest_shl sg z.natAbs (p + 149).toNat p
    rw [show (-149 - ((0 : Nat) : Int)) = p - ((p + 149).toNat : Int) by omega]
    exact this.symm
  rw [hw]
  rw [hk] at hl
  have := write_val (if z = 0 then s && !t else decide (z < 0)) 0 (z.natAbs <<< (p + 149).toNat) (by omega)
  by_cases h0 : z = 0
  · subst h0
    rw [Int.zero_mul, rz_zero]
    rw [if_pos rfl] at this ⊢
    rw [show (0 : Int).natAbs <<< (p + 149).toNat = 0 from Nat.zero_shiftLeft _, rnd_zero] at this
    rw [show (0 : Int).natAbs <<< (p + 149).toNat = 0 from Nat.zero_shiftLeft _]
    cases hst : (s && !t) <;> rw [hst] at this <;> simpa using this
  · rw [if_neg h0] at this ⊢
    unfold rz
    rw [hk]
    by_cases hz : z < 0
    · rw [decide_eq_true hz] at this ⊢
      rw [if_pos (Int.mul_neg_of_neg_of_pos hz hpos)]
      exact this
    · rw [decide_eq_false hz] at this ⊢
      rw [if_neg (by have := Int.mul_nonneg (Int.not_lt.1 hz) (Int.le_of_lt hpos); omega)]
      exact this
theorem mul_val {x y : F} {v w : Int} (hx : Val x v) (hy : Val y w) (hl : (v * w).natAbs.log2 ≤ 424) : Val (fmul x y) (rz 149 (v * w)) := by
  obtain ⟨a, s, m, e, rfl, ha, he, rfl⟩ := hx
  obtain ⟨b, t, n, f, rfl, hb, hf, rfl⟩ := hy
  have h : fmul (some a) (some b) = some (Ieee.single.write (.number (s != t) (m * n) (e + f))) := by
    show ((Ieee.single.read a).product (Ieee.single.read b)).map Ieee.single.write = _
    rw [ha, hb]; rfl
  rw [h]
  have hw : Ieee.single.write (.number (s != t) (m * n) (e + f)) = Ieee.single.write (.number (s != t) ((m * n) <<< (e + f + 298).toNat) (-149 - ((149 : Nat) : Int))) := by
    show Ieee.single.nearest _ _ _ = Ieee.single.nearest _ _ _
    have := nearest_shl (s != t) (m * n) (e + f + 298).toNat (e + f)
    rw [show (-149 - ((149 : Nat) : Int)) = e + f - ((e + f + 298).toNat : Int) by omega]
    exact this.symm
  have hP : m * 2 ^ (e + 149).toNat * (n * 2 ^ (f + 149).toNat) = (m * n) <<< (e + f + 298).toNat := by
    rw [Nat.shiftLeft_eq, show (e + f + 298).toNat = (e + 149).toNat + (f + 149).toNat by omega, Nat.pow_add]
    simp only [Nat.mul_assoc, Nat.mul_left_comm]
  have hz : Ieee.signed s m (e + 149).toNat * Ieee.signed t n (f + 149).toNat = if (s != t) then -(((m * n) <<< (e + f + 298).toNat : Nat) : Int) else (((m * n) <<< (e + f + 298).toNat : Nat) : Int) := by
    rw [signed_eq, signed_eq, ← hP]
    cases s <;> cases t <;> simp [Int.neg_mul, Int.mul_neg]
  rw [hw]
  rw [hz] at hl ⊢
  generalize (m * n) <<< (e + f + 298).toNat = P at hl ⊢
  have := write_val (s != t) 149 P (by cases hst : (s != t) <;> rw [hst] at hl <;> simpa using hl)
  unfold rz
  cases hst : (s != t)
  · rw [hst] at this
    simp only [Bool.false_eq_true, if_false] at this ⊢
    rw [if_neg (by omega)]
    exact this
  · rw [hst] at this
    simp only [if_true] at this ⊢
    rw [Int.natAbs_neg, Int.natAbs_natCast]
    by_cases h0 : P = 0
    · subst h0
      rw [rnd_zero] at this ⊢
      simpa using this
    · rw [if_pos (by omega)]
      exact this
theorem val_inj {x : F} {v w : Int} (h : Val x v) (h' : Val x w) : v = w := by
  obtain ⟨a, s, m, e, rfl, ha, he, rfl⟩ := h
  obtain ⟨b, t, n, f, hb', hb, hf, rfl⟩ := h'
  cases hb'
  rw [ha] at hb
  cases hb
  rfl
end Go.Proofs.Ytonmdkhfongmhaa
