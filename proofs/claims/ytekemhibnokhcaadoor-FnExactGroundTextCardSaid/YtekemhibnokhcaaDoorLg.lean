/- Bounds on what float arithmetic gives, by powers of two: the place of the leading digit. -/
import Derived.Test.YtekemhibnokhcaaDoorSize
namespace Go.Proofs.YtekemhibnokhcaaDoor
open Go.RowKit

/-- The place of the leading digit of 'm * 2 ^ e'. -/
def lg (m : Nat) (e : Int) : Int := (m.log2 : Int) + e

theorem cut_bounds (s : Bool) (n d : Nat) : n / 2 ^ d ≤ Ieee.Toward.even.cut s n d ∧ Ieee.Toward.even.cut s n d ≤ n / 2 ^ d + 1 := by
  unfold Ieee.Toward.cut
  simp only [Nat.one_shiftLeft]
  have hb : ∀ b : Bool, b.toNat ≤ 1 := fun b => by cases b <;> decide
  rcases Nat.lt_or_ge (n.log2 + 2) d with h | h
  · have e1 : min d (n.log2 + 2) = n.log2 + 2 := by omega
    rw [e1]
    have hn : n < 2 ^ (n.log2 + 1) := Nat.lt_log2_self
    have h2 : n < 2 ^ (n.log2 + 2) := Nat.lt_of_lt_of_le hn (Nat.pow_le_pow_right (by decide) (by omega))
    have h3 : n < 2 ^ d := Nat.lt_of_lt_of_le h2 (Nat.pow_le_pow_right (by decide) (by omega))
    rw [Nat.div_eq_of_lt h3, Nat.div_eq_of_lt h2]
    have := hb (decide (2 ^ (n.log2 + 2) < 2 * (n % 2 ^ (n.log2 + 2))) || 2 ^ (n.log2 + 2) == 2 * (n % 2 ^ (n.log2 + 2)) && 0 % 2 == 1)
    omega
  · have e1 : min d (n.log2 + 2) = d := by omega
    rw [e1]
    have := hb (decide (2 ^ d < 2 * (n % 2 ^ d)) || 2 ^ d == 2 * (n % 2 ^ d) && n / 2 ^ d % 2 == 1)
    omega

/-- What a rounded number is. -/
theorem nearest_data (s : Bool) (mag : Nat) (place : Int) (h0 : mag ≠ 0) (hub : lg mag place ≤ 126) :
    ∃ m e, Ieee.single.read (Ieee.single.nearest s mag place) = .number s m e ∧ -149 ≤ e ∧ (m = 0 ∨ lg m e ≤ max (lg mag place + 1) (-149)) ∧ (-149 ≤ lg mag place → m ≠ 0 ∧ lg mag place ≤ lg m e) := by
  have hf : Ieee.single.fractionBits = 23 := rfl
  have hb : Ieee.single.binade = 8388608 := rfl
  have hi : Ieee.single.infRung = 2139095040 := rfl
  have hl : Ieee.single.leastPlace = -149 := rfl
  have hs : Ieee.single.signWeight = 2147483648 := rfl
  -- the kept digits
  have hkept : ∃ kept : Nat, Ieee.single.nearest s mag place = Ieee.single.word s (min ((max (lg mag place - 23) (-149) + 149).toNat * 8388608 + kept) 2139095040) ∧
      (-126 ≤ lg mag place → 8388608 ≤ kept ∧ kept ≤ 16777216) ∧ (lg mag place < -126 → kept ≤ 2 ^ (lg mag place + 150).toNat ∧ (-149 ≤ lg mag place → 2 ^ (lg mag place + 149).toNat ≤ kept)) := by
    unfold Ieee.Format.nearest
    rw [if_neg h0]
    simp only [hf, hb, hi, hl]
    have e1 : max (place + (mag.log2 : Int) - ((23 : Nat) : Int)) (-149) = max (lg mag place - 23) (-149) := by unfold lg; omega
    rw [e1]
    refine ⟨_, rfl, ?_, ?_⟩
    · intro hk
      have hlg : lg mag place = (mag.log2 : Int) + place := rfl
      have e2 : max (lg mag place - 23) (-149) = lg mag place - 23 := by omega
      rw [e2]
      have hlt : mag < 2 ^ (mag.log2 + 1) := Nat.lt_log2_self
      have hge : 2 ^ mag.log2 ≤ mag := Nat.log2_self_le h0
      rcases Nat.lt_or_ge mag.log2 23 with h | h
      · have e3 : (lg mag place - 23 - place).toNat = 0 := by omega
        have e4 : (place - (lg mag place - 23)).toNat = 23 - mag.log2 := by omega
        rw [e3, e4, cut_zero, Nat.shiftLeft_eq]
        constructor
        · calc 8388608 = 2 ^ mag.log2 * 2 ^ (23 - mag.log2) := by rw [← Nat.pow_add, show mag.log2 + (23 - mag.log2) = 23 by omega]
            _ ≤ mag * 2 ^ (23 - mag.log2) := Nat.mul_le_mul_right _ hge
        · refine Nat.le_of_lt ?_
          calc mag * 2 ^ (23 - mag.log2) < 2 ^ (mag.log2 + 1) * 2 ^ (23 - mag.log2) := Nat.mul_lt_mul_of_pos_right hlt (Nat.two_pow_pos _)
            _ = 16777216 := by rw [← Nat.pow_add, show mag.log2 + 1 + (23 - mag.log2) = 24 by omega]
      · have e3 : (lg mag place - 23 - place).toNat = mag.log2 - 23 := by omega
        have e4 : (place - (lg mag place - 23)).toNat = 0 := by omega
        rw [e3, e4, Nat.shiftLeft_zero]
        obtain ⟨b1, b2⟩ := cut_bounds s mag (mag.log2 - 23)
        have hp : 0 < 2 ^ (mag.log2 - 23) := Nat.two_pow_pos _
        have q1 : 8388608 ≤ mag / 2 ^ (mag.log2 - 23) := by
          rw [Nat.le_div_iff_mul_le hp]
          calc 8388608 * 2 ^ (mag.log2 - 23) = 2 ^ mag.log2 := by rw [show (8388608 : Nat) = 2 ^ 23 from rfl, ← Nat.pow_add, show 23 + (mag.log2 - 23) = mag.log2 by omega]
            _ ≤ mag := hge
        have q2 : mag / 2 ^ (mag.log2 - 23) < 16777216 := by
          rw [Nat.div_lt_iff_lt_mul hp]
          calc mag < 2 ^ (mag.log2 + 1) := hlt
            _ = 16777216 * 2 ^ (mag.log2 - 23) := by rw [show (16777216 : Nat) = 2 ^ 24 from rfl, ← Nat.pow_add, show 24 + (mag.log2 - 23) = mag.log2 + 1 by omega]
        omega
    · intro hk
      have hlg : lg mag place = (mag.log2 : Int) + place := rfl
      have e2 : max (lg mag place - 23) (-149) = -149 := by omega
      rw [e2]
      have hlt : mag < 2 ^ (mag.log2 + 1) := Nat.lt_log2_self
      have hge : 2 ^ mag.log2 ≤ mag := Nat.log2_self_le h0
      rcases Int.lt_or_le place (-149) with h | h
      · have e4 : (place - -149).toNat = 0 := by omega
        rw [e4, Nat.shiftLeft_zero]
        obtain ⟨b1, b2⟩ := cut_bounds s mag (-149 - place).toNat
        generalize hd : (-149 - place).toNat = d at *
        have hp : 0 < 2 ^ d := Nat.two_pow_pos _
        constructor
        · rcases Int.lt_or_le (lg mag place) (-149) with h2 | h2
          · have : mag / 2 ^ d = 0 := Nat.div_eq_of_lt (Nat.lt_of_lt_of_le hlt (Nat.pow_le_pow_right (by decide) (by omega)))
            have h1 := Nat.one_le_two_pow (n := (lg mag place + 150).toNat)
            omega
          · have : mag / 2 ^ d < 2 ^ (lg mag place + 150).toNat := by
              rw [Nat.div_lt_iff_lt_mul hp, ← Nat.pow_add, show (lg mag place + 150).toNat + d = mag.log2 + 1 by omega]
              exact hlt
            omega
        · intro h2
          refine Nat.le_trans ?_ b1
          rw [Nat.le_div_iff_mul_le hp, ← Nat.pow_add, show (lg mag place + 149).toNat + d = mag.log2 by omega]
          exact hge
      · have e3 : (-149 - place).toNat = 0 := by omega
        rw [e3, cut_zero, Nat.shiftLeft_eq]
        constructor
        · refine Nat.le_of_lt ?_
          calc mag * 2 ^ (place - -149).toNat < 2 ^ (mag.log2 + 1) * 2 ^ (place - -149).toNat := Nat.mul_lt_mul_of_pos_right hlt (Nat.two_pow_pos _)
            _ = 2 ^ (lg mag place + 150).toNat := by rw [← Nat.pow_add, show mag.log2 + 1 + (place - -149).toNat = (lg mag place + 150).toNat by omega]
        · intro _
          calc 2 ^ (lg mag place + 149).toNat = 2 ^ mag.log2 * 2 ^ (place - -149).toNat := by rw [← Nat.pow_add, show mag.log2 + (place - -149).toNat = (lg mag place + 149).toNat by omega]
            _ ≤ mag * 2 ^ (place - -149).toNat := Nat.mul_le_mul_right _ hge
  obtain ⟨kept, hk1, hk2, hk3⟩ := hkept
  rw [hk1]
  have hrd : ∀ r, r < 2139095040 → ∃ m e, Ieee.single.read (Ieee.single.word s r) = .number s m e ∧ (e + 149).toNat * 8388608 + m = r ∧ -149 ≤ e ∧ ((e = -149 ∧ m < 8388608) ∨ (8388608 ≤ m ∧ m < 16777216)) := by
    intro r hr
    have hm : Ieee.single.word s r % 2147483648 = r := by
      unfold Ieee.Format.word
      split
      · rw [hs, Nat.add_mod_left]; exact Nat.mod_eq_of_lt (by omega)
      · exact Nat.mod_eq_of_lt (by omega)
    obtain ⟨m, e, h1, h2, h3, h4⟩ := read_rung (Ieee.single.word s r) (by omega)
    refine ⟨m, e, ?_, by omega, h3, h4⟩
    have hsg : (Ieee.single.word s r / 2147483648 % 2 == 1) = s := by
      unfold Ieee.Format.word
      cases s
      · simp only [Bool.false_eq_true, if_false]; rw [Nat.div_eq_of_lt (by omega)]; rfl
      · simp only [if_true]; rw [hs, show (2147483648 + r) / 2147483648 = 1 by omega]; rfl
    rw [h1, hsg]
  rcases Int.lt_or_le (lg mag place) (-126) with h | h
  · obtain ⟨k1, k2⟩ := hk3 h
    have e2 : (max (lg mag place - 23) (-149) + 149).toNat = 0 := by omega
    have hkb : kept ≤ 8388608 := Nat.le_trans k1 (by
      calc 2 ^ (lg mag place + 150).toNat ≤ 2 ^ 23 := Nat.pow_le_pow_right (by decide) (by omega)
        _ = 8388608 := rfl)
    rw [e2, Nat.zero_mul, Nat.zero_add, Nat.min_eq_left (by omega)]
    obtain ⟨m, e, h1, h2, h3, h4⟩ := hrd kept (by omega)
    refine ⟨m, e, h1, h3, ?_, ?_⟩
    · by_cases hm0 : m = 0
      · exact .inl hm0
      · refine .inr ?_
        have he : e = -149 := by omega
        have hmk : m = kept := by omega
        have : m.log2 ≤ (lg mag place + 150).toNat := by
          rcases Nat.lt_or_ge (lg mag place + 150).toNat m.log2 with hh | hh
          · have h5 := Nat.log2_self_le hm0
            have h6 : 2 ^ (lg mag place + 150).toNat < 2 ^ m.log2 := Nat.pow_lt_pow_right (by decide) hh
            omega
          · exact hh
        show (m.log2 : Int) + e ≤ _
        omega
    · intro hlo
      have k2' := k2 hlo
      have he : e = -149 := by omega
      have hmk : m = kept := by omega
      have hp := Nat.two_pow_pos (lg mag place + 149).toNat
      refine ⟨by omega, ?_⟩
      have : (lg mag place + 149).toNat ≤ m.log2 := (Nat.le_log2 (by omega)).2 (by rw [hmk]; exact k2')
      show _ ≤ (m.log2 : Int) + e
      omega
  · obtain ⟨k1, k2⟩ := hk2 h
    have e2 : max (lg mag place - 23) (-149) = lg mag place - 23 := by omega
    rw [e2]
    have hr : (lg mag place - 23 + 149).toNat * 8388608 + kept < 2139095040 := by
      have : (lg mag place - 23 + 149).toNat ≤ 252 := by omega
      omega
    rw [Nat.min_eq_left (by omega)]
    obtain ⟨m, e, h1, h2, h3, h4⟩ := hrd _ hr
    have hm1 : 8388608 ≤ m := by omega
    have hlog : m.log2 = 23 := by
      have h5 := (Nat.log2_lt (n := m) (k := 24) (by omega)).2 (by omega)
      have h6 := (Nat.le_log2 (n := m) (k := 23) (by omega)).2 (by omega)
      omega
    refine ⟨m, e, h1, h3, .inr ?_, fun _ => ⟨by omega, ?_⟩⟩
    · show (m.log2 : Int) + e ≤ _
      rw [hlog]
      omega
    · show _ ≤ (m.log2 : Int) + e
      rw [hlog]
      omega
end Go.Proofs.YtekemhibnokhcaaDoor
