/- The loggers: whole numbers of sixteenths, by the library's floor and ceiling and by cutting. -/
import Derived.Test.YtonmdkhfongmhaaAbs
import Derived.Test.YtonmdkhfongmhaaTM1
import Derived.Laws.FloatArith
import Derived.Test.YtonmdkhfongmhaaGd
namespace Go.Proofs.Ytonmdkhfongmhaa
open Go.RowKit

theorem wide_sign (s : Bool) (m : Nat) (e : Int) (h0 : m ≠ 0) (hm : m < 16777216) (h1 : -149 ≤ e) (h2 : e ≤ 104) :
    Ieee.double.read (Ieee.double.write (.number s m e)) = .number s (m <<< (52 - m.log2)) (e - ((52 - m.log2 : Nat) : Int)) := by
  show Ieee.double.read (Ieee.double.nearest s m e) = _
  have hf : Ieee.double.fractionBits = 52 := rfl
  have hl : Ieee.double.leastPlace = -1074 := rfl
  have hb : Ieee.double.binade = 4503599627370496 := rfl
  have hi : Ieee.double.infRung = 9218868437227405312 := rfl
  have hs : Ieee.double.signWeight = 9223372036854775808 := rfl
  have hlog : m.log2 ≤ 23 := by
    have := (Nat.log2_lt h0 (k := 24)).2 (by omega)
    omega
  have hlt : m < 2 ^ (m.log2 + 1) := Nat.lt_log2_self
  have hge : 2 ^ m.log2 ≤ m := Nat.log2_self_le h0
  have hk : m <<< (52 - m.log2) < 9007199254740992 := by
    rw [Nat.shiftLeft_eq]
    calc m * 2 ^ (52 - m.log2) < 2 ^ (m.log2 + 1) * 2 ^ (52 - m.log2) := Nat.mul_lt_mul_of_pos_right hlt (Nat.two_pow_pos _)
      _ = 2 ^ 53 := by rw [← Nat.pow_add]; congr 1; omega
  have hk2 : 4503599627370496 ≤ m <<< (52 - m.log2) := by
    rw [Nat.shiftLeft_eq]
    calc 4503599627370496 = 2 ^ m.log2 * 2 ^ (52 - m.log2) := by rw [← Nat.pow_add, show m.log2 + (52 - m.log2) = 52 by omega]
      _ ≤ m * 2 ^ (52 - m.log2) := Nat.mul_le_mul_right _ hge
  have hnear : Ieee.double.nearest s m e = Ieee.double.word s ((e + m.log2 + 1022).toNat * 4503599627370496 + m <<< (52 - m.log2)) := by
    unfold Ieee.Format.nearest
    rw [if_neg h0]
    simp only [hf, hl, hb, hi]
    have e1 : max (e + (m.log2 : Int) - ((52 : Nat) : Int)) (-1074) = e + (m.log2 : Int) - 52 := by omega
    rw [e1]
    have e2 : (e - (e + (m.log2 : Int) - 52)).toNat = 52 - m.log2 := by omega
    have e3 : (e + (m.log2 : Int) - 52 - e).toNat = 0 := by omega
    have e4 : (e + (m.log2 : Int) - 52 - -1074).toNat = (e + m.log2 + 1022).toNat := by congr 1; omega
    rw [e2, e3, e4, cut_zero, Nat.min_eq_left (by omega)]
  rw [hnear]
  generalize hK : m <<< (52 - m.log2) = K at *
  have hT : (e + m.log2 + 1022).toNat ≤ 1149 := by omega
  have hT2 : (((e + m.log2 + 1022).toNat : Nat) : Int) = e + m.log2 + 1022 := by omega
  generalize (e + m.log2 + 1022).toNat = T at *
  have hw : Ieee.double.word s (T * 4503599627370496 + K) % 9223372036854775808 = T * 4503599627370496 + K ∧ (Ieee.double.word s (T * 4503599627370496 + K) / 9223372036854775808 % 2 == 1) = s := by
    unfold Ieee.Format.word
    cases s
    · rw [if_neg (by decide)]
      exact ⟨Nat.mod_eq_of_lt (by omega), by rw [Nat.div_eq_of_lt (by omega)]; rfl⟩
    · rw [if_pos rfl, hs]
      refine ⟨by omega, ?_⟩
      rw [show (9223372036854775808 + (T * 4503599627370496 + K)) / 9223372036854775808 = 1 by omega]
      rfl
  unfold Ieee.Format.read
  simp only [hb, hi, hl, hs]
  rw [hw.1, hw.2, if_neg (by omega), if_pos (by omega)]
  have q2 : 4503599627370496 + (T * 4503599627370496 + K) % 4503599627370496 = K := by omega
  have q3 : (-1074 : Int) + (((T * 4503599627370496 + K) / 4503599627370496 - 1 : Nat) : Int) = e - ((52 - m.log2 : Nat) : Int) := by omega
  rw [q2, q3]

theorem wide_zero (s : Bool) (e : Int) : Ieee.double.read (Ieee.double.write (.number s 0 e)) = .number s 0 (-1074) := by
  show Ieee.double.read (Ieee.double.nearest s 0 e) = _
  unfold Ieee.Format.nearest
  rw [if_pos rfl]
  cases s <;> decide
/-- Which way is towards nought. -/
def inW (s : Bool) : Ieee.Toward := if s then .up else .down
theorem cut_in {s : Bool} {way : Ieee.Toward} (hw : way = inW s ∨ way = .zero) (n drop : Nat) : way.cut s n drop = n / 2 ^ drop := by
  have h0 : way.cut s n drop = n / (1 <<< min drop (n.log2 + 2)) := by
    rcases hw with rfl | rfl
    · cases s <;> rfl
    · rfl
  rw [h0, Nat.shiftLeft_eq, Nat.one_mul]
  by_cases h : drop ≤ n.log2 + 2
  · rw [Nat.min_eq_left h]
  · rw [Nat.min_eq_right (by omega)]
    have h1 : n < 2 ^ (n.log2 + 2) := Nat.lt_of_lt_of_le Nat.lt_log2_self (Nat.pow_le_pow_right (by decide) (by omega))
    rw [Nat.div_eq_of_lt h1, Nat.div_eq_of_lt (Nat.lt_of_lt_of_le h1 (Nat.pow_le_pow_right (by decide) (by omega)))]
theorem integral_in {s : Bool} {way : Ieee.Toward} (hw : way = inW s ∨ way = .zero) (m : Nat) (e : Int) : (Ieee.Datum.number s m e).integral way = .number s ((m <<< e.toNat) / 2 ^ (-e).toNat) 0 := by
  show Ieee.Datum.number s (way.cut s _ _) 0 = _
  rw [cut_in hw]
theorem shl_div (m j : Nat) (e : Int) : (m <<< j <<< (e - j).toNat) / 2 ^ (-(e - j)).toNat = (m <<< e.toNat) / 2 ^ (-e).toNat := by
  simp only [Nat.shiftLeft_eq]
  rcases Int.le_total 0 e with h | h
  · rw [show (-e).toNat = 0 by omega, Nat.pow_zero, Nat.div_one]
    rcases Int.le_total 0 (e - j) with h2 | h2
    · rw [show (-(e - (j : Int))).toNat = 0 by omega, Nat.pow_zero, Nat.div_one, Nat.mul_assoc, ← Nat.pow_add, show j + (e - (j : Int)).toNat = e.toNat by omega]
    · rw [show (e - (j : Int)).toNat = 0 by omega, Nat.pow_zero, Nat.mul_one]
      have : 2 ^ j = 2 ^ e.toNat * 2 ^ (-(e - (j : Int))).toNat := by rw [← Nat.pow_add]; congr 1; omega
      rw [this, ← Nat.mul_assoc, Nat.mul_div_cancel _ (Nat.two_pow_pos _)]
  · rw [show e.toNat = 0 by omega, Nat.pow_zero, Nat.mul_one, show (e - (j : Int)).toNat = 0 by omega, Nat.pow_zero, Nat.mul_one]
    have : 2 ^ (-(e - (j : Int))).toNat = 2 ^ (-e).toNat * 2 ^ j := by rw [← Nat.pow_add]; congr 1; omega
    rw [this, Nat.mul_div_mul_right _ _ (Nat.two_pow_pos _)]
theorem toInt_in (s : Bool) (m : Nat) (e : Int) : (Ieee.Datum.number s m e).toInt .zero = some (Ieee.signed s ((m <<< e.toNat) / 2 ^ (-e).toNat) 0) := by
  unfold Ieee.Datum.toInt
  rw [integral_in (.inr rfl)]
/-- A number in a wide one, cut towards nought there. -/
theorem wide_cut (s : Bool) (m : Nat) (e : Int) (hm : m < 16777216) (h1 : -149 ≤ e) (h2 : e ≤ 0) (n : Nat) (hn : (m <<< e.toNat) / 2 ^ (-e).toNat = n) (hn2 : n < 16777216) :
    (Ieee.double.read (Ieee.double.write ((Ieee.double.read (Ieee.double.write (.number s m e))).integral (inW s)))).toInt .zero = some (Ieee.signed s n 0) := by
  have key : (Ieee.double.read (Ieee.double.write (.number s m e))).integral (inW s) = .number s n 0 := by
    by_cases h0 : m = 0
    · subst h0
      rw [wide_zero, integral_in (.inl rfl)]
      rw [← hn, Nat.zero_shiftLeft, Nat.zero_div, Nat.zero_shiftLeft, Nat.zero_div]
    · rw [wide_sign s m e h0 hm h1 (by omega), integral_in (.inl rfl), shl_div, hn]
  rw [key]
  by_cases h0 : n = 0
  · subst h0
    rw [wide_zero, toInt_in, Nat.zero_shiftLeft, Nat.zero_div]
  · rw [wide_sign s n 0 h0 hn2 (by omega) (by omega), toInt_in]
    congr 2
    have := shl_div n (52 - n.log2) 0
    simpa using this

theorem signed_nonneg {s : Bool} {m : Nat} (h : s = false ∨ m = 0) (k : Nat) : 0 ≤ Ieee.signed s m k := by
  unfold Ieee.signed
  rcases h with rfl | rfl
  · exact Int.natCast_nonneg _
  · rw [Nat.zero_shiftLeft]; cases s <;> decide
theorem signed_sign {s : Bool} {m k : Nat} : (0 ≤ Ieee.signed s m k → s = false ∨ m = 0) ∧ (Ieee.signed s m k < 0 → s = true) := by
  unfold Ieee.signed
  have hp := Nat.two_pow_pos k
  cases s
  · exact ⟨fun _ => .inl rfl, fun h => by rw [if_neg (by decide)] at h; have := Int.natCast_nonneg (m <<< k); omega⟩
  · refine ⟨fun h => .inr ?_, fun _ => rfl⟩
    rw [if_pos rfl, Nat.shiftLeft_eq] at h
    rcases Nat.eq_zero_or_pos m with h0 | h0
    · exact h0
    · have := Nat.mul_pos h0 hp; omega
theorem half_pos (k : Nat) : 0 < Ieee.signed false 8388608 k := by
  unfold Ieee.signed
  rw [if_neg (by decide), Nat.shiftLeft_eq]
  have := Nat.two_pow_pos k
  omega
theorem half_neg (k : Nat) : Ieee.signed true 8388608 k < 0 := by
  unfold Ieee.signed
  rw [if_pos rfl, Nat.shiftLeft_eq]
  have := Nat.two_pow_pos k
  omega
theorem readHalf : Ieee.single.read 1056964608 = .number false 8388608 (-24) := by decide
/-- Half of one more than what is not less than nought is a number without a sign. -/
theorem up_pos {b : Nat} (h : fge (some b) (some 0) = true) : ∃ r, r ≤ 2139095040 ∧ fadd (some b) (some 1056964608) = some r := by
  have hadd : fadd (some b) (some 1056964608) = ((Ieee.single.read b).sum (Ieee.single.read 1056964608)).map Ieee.single.write := rfl
  have hord : ford (some b) (some 0) = (Ieee.single.read b).order (Ieee.single.read 0) := rfl
  unfold fge fgt feq at h
  rw [hord, read0] at h
  rw [hadd, readHalf]
  rcases read_single b with ⟨s, m, e, hd, _, he, _⟩ | ⟨s, hd⟩ | ⟨s, t, hd⟩
  · rw [hd] at h ⊢
    simp only [Ieee.Datum.order] at h
    have hs : s = false ∨ m = 0 := by
      refine (signed_sign (k := (e - min e (-149)).toNat)).1 ?_
      rcases Int.lt_or_le (Ieee.signed s m (e - min e (-149)).toNat) 0 with h2 | h2
      · exfalso
        have h3 : Ieee.signed false 0 (-149 - min e (-149)).toNat = 0 := by unfold Ieee.signed; rw [Nat.zero_shiftLeft]; rfl
        rw [h3, Int.compare_eq_lt.2 h2] at h
        simp at h
      · exact h2
    simp only [Ieee.Datum.sum, Option.map_some]
    have h4 := signed_nonneg hs (e - min e (-24)).toNat
    have h5 := half_pos (-24 - min e (-24)).toNat
    rw [if_neg (by omega), decide_eq_false (by omega)]
    obtain ⟨r, hr, hr2⟩ := nearest_rung Ieee.single false (Ieee.signed s m (e - min e (-24)).toNat + Ieee.signed false 8388608 (-24 - min e (-24)).toNat).natAbs (min e (-24))
    exact ⟨r, hr, congrArg some hr2⟩
  · rw [hd] at h ⊢
    cases s
    · exact ⟨2139095040, Nat.le_refl _, by decide⟩
    · simp [Ieee.Datum.order] at h
  · rw [hd] at h
    simp [Ieee.Datum.order] at h
theorem dn_neg {b : Nat} (h : flt (some b) (some 0) = true) : ∃ r, r ≤ 2139095040 ∧ fsub (some b) (some 1056964608) = some (2147483648 + r) := by
  have hadd : fsub (some b) (some 1056964608) = ((Ieee.single.read b).sum (Ieee.single.read 1056964608).opposite).map Ieee.single.write := rfl
  have hord : ford (some b) (some 0) = (Ieee.single.read b).order (Ieee.single.read 0) := rfl
  unfold flt at h
  rw [hord, read0] at h
  rw [hadd, readHalf]
  rcases read_single b with ⟨s, m, e, hd, _, he, _⟩ | ⟨s, hd⟩ | ⟨s, t, hd⟩
  · rw [hd] at h ⊢
    simp only [Ieee.Datum.order] at h
    have h3 : Ieee.signed false 0 (-149 - min e (-149)).toNat = 0 := by unfold Ieee.signed; rw [Nat.zero_shiftLeft]; rfl
    rw [h3] at h
    have h2 : Ieee.signed s m (e - min e (-149)).toNat < 0 := by
      refine Int.compare_eq_lt.1 ?_
      simpa using h
    have hs := (signed_sign (k := (e - min e (-149)).toNat)).2 h2
    subst hs
    simp only [Ieee.Datum.opposite, Bool.not_false, Ieee.Datum.sum, Option.map_some]
    have h4 : Ieee.signed true m (e - min e (-24)).toNat ≤ 0 := by unfold Ieee.signed; rw [if_pos rfl]; have := Int.natCast_nonneg (m <<< (e - min e (-24)).toNat); omega
    have h5 := half_neg (-24 - min e (-24)).toNat
    rw [if_neg (by omega), decide_eq_true (by omega)]
    obtain ⟨r, hr, hr2⟩ := nearest_rung Ieee.single true (Ieee.signed true m (e - min e (-24)).toNat + Ieee.signed true 8388608 (-24 - min e (-24)).toNat).natAbs (min e (-24))
    exact ⟨r, hr, congrArg some hr2⟩
  · rw [hd] at h ⊢
    cases s
    · simp [Ieee.Datum.order] at h
    · exact ⟨2139095040, Nat.le_refl _, by decide⟩
  · rw [hd] at h
    simp [Ieee.Datum.order] at h
theorem up_low {r : Nat} (hr : r ≤ 2139095040) (h : flt (some r) (some 1191181824) = true) : r < 1191182336 := by
  rcases Nat.lt_or_ge r 2139095040 with h1 | h1
  · rw [flt_gd h1 (by decide)] at h
    have := of_decide_eq_true h
    omega
  · obtain rfl : r = 2139095040 := by omega
    exact absurd h (by decide)
theorem dn_low {r : Nat} (hr : r ≤ 2139095040) (h : fgt (some (2147483648 + r)) (some 3338665984) = true) : r < 1191182336 := by
  rcases Nat.lt_or_ge r 2139095040 with h1 | h1
  · obtain ⟨m, e, hd, h2, h3, h4⟩ := read_word_of true h1
    have hd : Ieee.single.read (2147483648 + r) = .number true m e := hd
    have hord : ford (some (2147483648 + r)) (some 3338665984) = (Ieee.single.read (2147483648 + r)).order (Ieee.single.read 3338665984) := rfl
    unfold fgt at h
    rw [hord, hd, show Ieee.single.read 3338665984 = .number true 8388608 (-8) by decide] at h
    simp only [Ieee.Datum.order] at h
    rcases Int.lt_or_le (-9) e with h5 | h5
    · exfalso
      have h6 : 8388608 ≤ m := by omega
      rw [show min e (-8) = -8 by omega] at h
      have h7 : compare (Ieee.signed true m (e - -8).toNat) (Ieee.signed true 8388608 (-8 - -8 : Int).toNat) = .gt := by simpa using h
      have h8 := Int.compare_eq_gt.1 h7
      unfold Ieee.signed at h8
      rw [if_pos rfl, if_pos rfl, Nat.shiftLeft_eq, Nat.shiftLeft_eq] at h8
      have h9 : (-8 - -8 : Int).toNat = 0 := by decide
      rw [h9] at h8
      have h10 := Nat.mul_le_mul h6 (Nat.two_pow_pos (e - -8).toNat)
      omega
    · omega
  · obtain rfl : r = 2139095040 := by omega
    exact absurd h (by decide)
theorem ford_some {a b : Nat} (ha : (Ieee.single.read a).isNaN = false) (hb : (Ieee.single.read b).isNaN = false) : (ford (some a) (some b)).isSome = true := by
  show ((Ieee.single.read a).order (Ieee.single.read b)).isSome = true
  cases h1 : Ieee.single.read a <;> cases h2 : Ieee.single.read b <;> first | (rw [h1] at ha; cases ha; done) | (rw [h2] at hb; cases hb; done) | rfl
theorem ford_tri {x y : F} (h : (ford x y).isSome = true) : fge x y = !flt x y ∧ fle x y = !fgt x y := by
  unfold fge fle flt fgt feq
  cases h2 : ford x y with
  | none => rw [h2] at h; cases h
  | some o => cases o <;> exact ⟨rfl, rfl⟩
def cutI (b : Nat) : Int := ((Ieee.single.read b).toInt .zero).getD 0
/-- Both ways of cutting give the same. -/
theorem cut_ok (s : Bool) {r : Nat} (hr : r < 1191182336) : (-32768 ≤ cutI (Ieee.single.word s r) ∧ cutI (Ieee.single.word s r) ≤ 32767) ∧ floatToIntVal .f32 (Ieee.single.word s r) .i64 = some (cutI (Ieee.single.word s r)) ∧
    floatToIntVal .f64 (Ieee.double.write ((Ieee.double.read (Ieee.double.write (Ieee.single.read (Ieee.single.word s r)))).integral (inW s))) .i16 = some (cutI (Ieee.single.word s r)) := by
  obtain ⟨m, e, hd, h2, h3, h4⟩ := read_word_of s (r := r) (by omega)
  obtain ⟨n, hn⟩ : ∃ n, (m <<< e.toNat) / 2 ^ (-e).toNat = n := ⟨_, rfl⟩
  have hn2 : n < 32768 := by
    rw [← hn, show e.toNat = 0 by omega, Nat.shiftLeft_zero]
    have h5 : 2 ^ 9 ≤ 2 ^ (-e).toNat := Nat.pow_le_pow_right (by decide) (by omega)
    refine (Nat.div_lt_iff_lt_mul (Nat.two_pow_pos _)).2 ?_
    have := Nat.mul_le_mul_left 32768 h5
    omega
  have ht : (Ieee.single.read (Ieee.single.word s r)).toInt .zero = some (Ieee.signed s n 0) := by rw [hd, toInt_in, hn]
  have hc : cutI (Ieee.single.word s r) = Ieee.signed s n 0 := by unfold cutI; rw [ht]; rfl
  have hsn : -32768 ≤ Ieee.signed s n 0 ∧ Ieee.signed s n 0 ≤ 32767 := by
    unfold Ieee.signed
    rw [Nat.shiftLeft_zero]
    cases s
    · rw [if_neg (by decide)]; omega
    · rw [if_pos rfl]; omega
  rw [hc]
  refine ⟨hsn, ?_, ?_⟩
  · unfold floatToIntVal
    have : (FloatKind.f32.decode (Ieee.single.word s r)).toInt .zero = some (Ieee.signed s n 0) := ht
    rw [this]
    have k1 : IntKind.i64.min = -9223372036854775808 := by decide
    have k2 : IntKind.i64.max = 9223372036854775807 := by decide
    show (if _ then _ else _) = _
    rw [if_pos (by rw [k1, k2]; omega)]
  · unfold floatToIntVal
    have : (FloatKind.f64.decode (Ieee.double.write ((Ieee.double.read (Ieee.double.write (Ieee.single.read (Ieee.single.word s r)))).integral (inW s)))).toInt .zero = some (Ieee.signed s n 0) := by
      rw [hd]
      exact wide_cut s m e (by omega) h3 (by omega) n hn (by omega)
    rw [this]
    have k1 : IntKind.i16.min = -32768 := by decide
    have k2 : IntKind.i16.max = 32767 := by decide
    show (if _ then _ else _) = _
    rw [if_pos (by rw [k1, k2]; omega)]
end Go.Proofs.Ytonmdkhfongmhaa
