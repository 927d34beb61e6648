/- The size of a difference is told alike by both sides. -/
import Derived.Test.YtonmdkhfongmhaaTdif
import Derived.Test.YtonmdkhfongmhaaWfin
import Derived.Test.YtonmdkhfongmhaaWsum
namespace Go.Proofs.Ytonmdkhfongmhaa
open Go.RowKit

theorem fdiv_nz {a b : Nat} {s : Bool} {m n : Nat} {e f : Int} (ha : Ieee.single.read a = .number s m e) (hb : Ieee.single.read b = .number false n f) (hm : m ≠ 0) (hn : n ≠ 0)
    (h1 : -100 ≤ lg m e - lg n f) (h2 : lg m e - f ≤ 120) : ∃ c m' e', fdiv (some a) (some b) = some c ∧ Ieee.single.read c = .number s m' e' ∧ m' ≠ 0 := by
  obtain ⟨_, hcm, _⟩ := read_canon ha
  obtain ⟨_, hcn, _⟩ := read_canon hb
  have hlm : m.log2 ≤ 23 := by
    have : m < 2 ^ 24 := by rcases hcm with ⟨_, h⟩ | ⟨_, h⟩ <;> omega
    have := (Nat.log2_lt hm).2 this
    omega
  have hf : Ieee.single.fractionBits = 23 := rfl
  generalize hmore : 25 + n.log2 - m.log2 = more
  have h : fdiv (some a) (some b) = some (Ieee.single.write (.number (s ^^ false) (2 * ((m <<< more) / n) + ((m <<< more) % n != 0).toNat) (e - f - more - 1))) := by
    show ((Ieee.single.read a).quotient (Ieee.single.fractionBits + 2) (Ieee.single.read b)).map Ieee.single.write = _
    rw [ha, hb, hf]
    simp only [Ieee.Datum.quotient]
    rw [if_neg hn]
    simp only [Option.map_some]
    rw [show 23 + 2 + n.log2 - m.log2 = more from hmore]
  have hge : 2 ^ m.log2 ≤ m := Nat.log2_self_le hm
  have hlt : n < 2 ^ (n.log2 + 1) := Nat.lt_log2_self
  have hltm : m < 2 ^ (m.log2 + 1) := Nat.lt_log2_self
  have hq : 2 ^ 24 ≤ (m <<< more) / n := by
    rw [Nat.le_div_iff_mul_le (Nat.pos_of_ne_zero hn), Nat.shiftLeft_eq]
    calc 2 ^ 24 * n ≤ 2 ^ 24 * 2 ^ (n.log2 + 1) := Nat.mul_le_mul_left _ (Nat.le_of_lt hlt)
      _ = 2 ^ m.log2 * 2 ^ more := by rw [← Nat.pow_add, ← Nat.pow_add]; congr 1; omega
      _ ≤ m * 2 ^ more := Nat.mul_le_mul_right _ hge
  have hq2 : (m <<< more) / n < 2 ^ (m.log2 + 1 + more) := by
    refine Nat.lt_of_le_of_lt (Nat.div_le_self _ _) ?_
    rw [Nat.shiftLeft_eq, Nat.pow_add]
    exact Nat.mul_lt_mul_of_pos_right hltm (Nat.two_pow_pos _)
  have hb1 : ((m <<< more) % n != 0).toNat ≤ 1 := by cases ((m <<< more) % n != 0) <;> decide
  rw [h]
  generalize (m <<< more) / n = q at hq hq2
  generalize ((m <<< more) % n != 0).toNat = r at hb1
  have hz : 2 * q + r ≠ 0 := by omega
  have l1 : 25 ≤ (2 * q + r).log2 := (Nat.le_log2 hz).2 (by omega)
  have l2 : (2 * q + r).log2 < m.log2 + 1 + more + 2 := (Nat.log2_lt hz).2 (by rw [Nat.pow_add]; omega)
  unfold lg at h1 h2
  obtain ⟨m', e', k1, _, _, k4⟩ := nearest_data (s ^^ false) (2 * q + r) (e - f - more - 1) hz (by unfold lg; omega)
  obtain ⟨k5, _⟩ := k4 (by unfold lg; omega)
  refine ⟨_, m', e', rfl, ?_, k5⟩
  rw [show (s ^^ false) = s by cases s <;> rfl] at k1 ⊢
  exact k1

/-- Finite, and no zero with the sign set. -/
def Fz (x : F) (k : Int) : Prop := ∃ b s m e, x = some b ∧ Ieee.single.read b = .number s m e ∧ -149 ≤ e ∧ (m = 0 ∨ lg m e ≤ k) ∧ (m = 0 → s = false)
theorem lev_fz {l : Int} (h : -32768 ≤ l ∧ l ≤ 32767) : Fz (levF l) 12 := by
  by_cases h0 : l = 0
  · subst h0
    exact ⟨0, false, 0, -149, by decide +kernel, by decide +kernel, by omega, .inl rfl, fun _ => rfl⟩
  · have h16 : Ge (some 1098907648) 4 := ⟨1098907648, 8388608, -19, rfl, by decide +kernel, by omega, by omega, by decide +kernel⟩
    have hle : Le (levF l) 12 := div_to 12 (le_ofI2 (n := l) (k := 16) (by omega) (by omega)) h16 (by omega) (by omega) (by omega)
    obtain ⟨b, j, e1, e2, hj⟩ := ofI_read l (by omega)
    have hm : l.natAbs <<< j ≠ 0 := by rw [Nat.shiftLeft_eq]; exact Nat.mul_ne_zero (by omega) (Nat.pos_iff_ne_zero.1 (Nat.two_pow_pos _))
    have hlog : (l.natAbs <<< j).log2 = l.natAbs.log2 + j := log2_shl _ _ (by omega)
    have hlb : l.natAbs.log2 < 16 := (Nat.log2_lt (by omega)).2 (by omega)
    have hlg : lg (l.natAbs <<< j) (0 - (j : Int)) = (l.natAbs.log2 : Int) := by unfold lg; omega
    have hlg2 : lg 8388608 (-19) = 4 := by decide +kernel
    obtain ⟨c, m', e', k1, k2, k3⟩ := fdiv_nz e2 (show Ieee.single.read 1098907648 = .number false 8388608 (-19) by decide +kernel) hm (by omega) (by rw [hlg, hlg2]; omega) (by rw [hlg]; omega)
    have hc : levF l = some c := by unfold levF; rw [e1]; exact k1
    obtain ⟨c', s, m, e, q1, q2, q3, q4⟩ := hle
    rw [hc] at q1
    cases q1
    exact ⟨c, s, m, e, hc, q2, q3, q4, fun hz => by rw [k2] at q2; cases q2; exact absurd hz k3⟩
theorem fsub_nz {x y : F} (hx : Fz x 110) (hy : Le y 110) : fsub x y ≠ some 2147483648 := by
  obtain ⟨a, s, m, e, rfl, ha, he, hm, hz⟩ := hx
  obtain ⟨b, t, n, f, rfl, hb, hf, hn⟩ := hy
  have hs := sum_le (s := s) (t := !t) hm hn (Int.le_refl _) (Int.le_refl _)
  have hr : Ieee.single.read 2147483648 = .number true 0 (-149) := by decide +kernel
  have h : fsub (some a) (some b) = some (Ieee.single.write (.number (if Ieee.signed s m (e - min e f).toNat + Ieee.signed (!t) n (f - min e f).toNat = 0 then s && !t else decide (Ieee.signed s m (e - min e f).toNat + Ieee.signed (!t) n (f - min e f).toNat < 0)) (Ieee.signed s m (e - min e f).toNat + Ieee.signed (!t) n (f - min e f).toNat).natAbs (min e f))) := by
    show ((Ieee.single.read a).sum (Ieee.single.read b).opposite).map Ieee.single.write = _
    rw [ha, hb]; rfl
  rw [h]
  intro hc
  have hc := Option.some.inj hc
  by_cases h0 : Ieee.signed s m (e - min e f).toNat + Ieee.signed (!t) n (f - min e f).toNat = 0
  · rw [if_pos h0, h0] at hc
    have hst : (s && !t) = false := by
      cases s
      · rfl
      · have hm0 : m ≠ 0 := fun h => by have := hz h; cases this
        cases t
        · exfalso
          have e1 : Ieee.signed true m (e - min e f).toNat = -((m <<< (e - min e f).toNat : Nat) : Int) := rfl
          have e2 : Ieee.signed (!false) n (f - min e f).toNat = -((n <<< (f - min e f).toNat : Nat) : Int) := rfl
          rw [e1, e2] at h0
          have hM : m <<< (e - min e f).toNat ≠ 0 := by rw [Nat.shiftLeft_eq]; exact Nat.mul_ne_zero hm0 (Nat.pos_iff_ne_zero.1 (Nat.two_pow_pos _))
          generalize m <<< (e - min e f).toNat = M at h0 hM
          generalize n <<< (f - min e f).toNat = Q at h0
          omega
        · rfl
    rw [hst] at hc
    cases hc
  · have hmag : (Ieee.signed s m (e - min e f).toNat + Ieee.signed (!t) n (f - min e f).toNat).natAbs ≠ 0 := by omega
    obtain ⟨m', e', k1, _, _, k4⟩ := nearest_data (if Ieee.signed s m (e - min e f).toNat + Ieee.signed (!t) n (f - min e f).toNat = 0 then s && !t else decide (Ieee.signed s m (e - min e f).toNat + Ieee.signed (!t) n (f - min e f).toNat < 0)) _ (min e f) hmag (by have := hs.resolve_left hmag; omega)
    have k5 := (k4 (by unfold lg; omega)).1
    have hc' : Ieee.single.nearest (if Ieee.signed s m (e - min e f).toNat + Ieee.signed (!t) n (f - min e f).toNat = 0 then s && !t else decide (Ieee.signed s m (e - min e f).toNat + Ieee.signed (!t) n (f - min e f).toNat < 0)) (Ieee.signed s m (e - min e f).toNat + Ieee.signed (!t) n (f - min e f).toNat).natAbs (min e f) = 2147483648 := hc
    rw [hc', hr] at k1
    injection k1 with _ h5 _
    exact k5 h5.symm
/-- A difference of what is asked: finite, and never the zero with the sign set. -/
theorem dif_ok {a : Aq} {s : Si} {r : Rd} (h : SiOk a s r.t) (hr : r.Rng) (hp : plain (fb s.r) = true) : Le (difF a s r) 114 ∧ difF a s r ≠ some 2147483648 := by
  obtain ⟨b, sg, m, e, h1, h2, h3, h4, h5⟩ := lev_fz hr.2
  have hl : Le (levF r.l) 12 := ⟨b, sg, m, e, h1, h2, h3, h4⟩
  have hd : Le (downS a s r.t) 110 := down_le h hp
  exact ⟨sub_to 114 hl hd (by omega) (by omega) (by omega) (by omega), fsub_nz ⟨b, sg, m, e, h1, h2, h3, h4.imp id (by omega), h5⟩ hd⟩

theorem neg_lt {a : Nat} (h : a < 4294967296) (hs : 2147483648 ≤ a) (hz : a ≠ 2147483648) (hn : (Ieee.single.read a).isNaN = false) : flt (some a) (some 0) = true := by
  have ho : ford (some a) (some 0) = (Ieee.single.read a).order (Ieee.single.read 0) := rfl
  cases hr : Ieee.single.read a with
  | number s m e =>
    have hsg := read_sign hr
    rw [sign_of h, decide_eq_true hs] at hsg
    subst hsg
    obtain ⟨he, _, h3, _⟩ := read_canon hr
    have hv := val_of hr he
    rw [flt_val hv val_zero]
    refine decide_eq_true ?_
    have e1 : Ieee.signed true m (e + 149).toNat = -((m <<< (e + 149).toNat : Nat) : Int) := rfl
    rw [e1]
    have hm : m ≠ 0 := by
      rintro rfl
      have h5 := (read_canon hr).2.1
      have : e = -149 := by rcases h5 with ⟨h, _⟩ | ⟨h, _⟩ <;> omega
      subst this
      simp at h3
      omega
    have hM : m <<< (e + 149).toNat ≠ 0 := by rw [Nat.shiftLeft_eq]; exact Nat.mul_ne_zero hm (Nat.pos_iff_ne_zero.1 (Nat.two_pow_pos _))
    generalize m <<< (e + 149).toNat = M at hM
    omega
  | infinity s =>
    have hsg : s = true := by
      have hb : Ieee.single.binade = 8388608 := rfl
      have hi2 : Ieee.single.infRung = 2139095040 := rfl
      have hs2 : Ieee.single.signWeight = 2147483648 := rfl
      unfold Ieee.Format.read at hr
      simp only [hb, hi2, hs2] at hr
      rw [sign_of h, decide_eq_true hs] at hr
      split at hr
      · cases hr
      · split at hr
        · cases hr
        · split at hr
          · cases hr; rfl
          · cases hr
    subst hsg
    unfold flt
    rw [ho, hr, read0]; rfl
  | nan s t => rw [hr] at hn; cases hn

set_option maxHeartbeats 400000 in
theorem l03Size_exact (a : Nat) (w : World) (hf : Fits (fb a)) (hz : fb a ≠ some 2147483648) :
    Calls Try.prog 61 #[.float .f32 a] w (RetF (fabs (fb a)) w) := by
  have hlt := order_lt
  rcases fbOf_cases Ieee.single a with ⟨e1, hn⟩ | ⟨e1, hn⟩
  · have e1 : fb a = none := e1
    have hl : flt (fb a) (fb 0) = false := by rw [e1]; rfl
    have HS : Hid (fb a = fabs (fb a)) := by show _ = _; rw [e1]; rfl
    clear e1 hn hz
    go_enter Try.func61, Try.ntmps61
    go_wp2_with fail
    go_ret
    exact ⟨a, rfl, HS.out, Below.refl _ _⟩
  · have e1 : fb a = some a := e1
    have ha : a < 4294967296 := hf a e1
    obtain ⟨k1, k2⟩ := size_alike ha hn
    obtain ⟨_, hle⟩ := wide_size a hn
    have hz2 : a ≠ 2147483648 := fun h => hz (by rw [e1, h])
    cases hl : flt (some a) (some 0)
    · have hs : a < 2147483648 := by
        rcases Nat.lt_or_ge a 2147483648 with h | h
        · exact h
        · have := neg_lt ha h hz2 hn
          rw [hl] at this; cases this
      have HS : Hid (fb a = fabs (fb a)) := by
        show _ = _
        rw [e1, fabs_num a ha hle, Nat.mod_eq_of_lt hs]
      have hl2 : flt (fb a) (fb 0) = false := by rw [e1, fb0]; exact hl
      clear e1 hn k1 k2 hl hz
      go_enter Try.func61, Try.ntmps61
      go_wp2_with fail
      go_ret
      exact ⟨a, rfl, HS.out, Below.refl _ _⟩
    · have HS : Hid (fb (Op.negFloat .f32 a) = fabs (fb a)) := by
        show _ = _
        rw [e1, k1 hl]
        exact (opp_neg ha e1).2
      have hl2 : flt (fb a) (fb 0) = true := by rw [e1, fb0]; exact hl
      have hneg : ∀ w' : World, (Op.unary .neg (.float .f32 a)).run Try.prog w' = .ok (.float .f32 (Op.negFloat .f32 a)) w' := fun _ => rfl
      clear e1 hn k1 k2 hl hz
      go_enter Try.func61, Try.ntmps61
      go_wp2_with fail
      go_ret
      exact ⟨_, rfl, HS.out, Below.refl _ _⟩
end Go.Proofs.Ytonmdkhfongmhaa
