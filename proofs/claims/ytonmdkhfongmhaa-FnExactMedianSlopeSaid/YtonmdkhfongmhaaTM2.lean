/- Misfits: both sides; the code of aquifers, a site and readings. -/
import Derived.Test.YtonmdkhfongmhaaTM1
import Derived.Test.YtonmdkhfongmhaaWfin
import Derived.Test.YtonmdkhfongmhaaWsum
import Derived.Deep.RegionHeld3
import Derived.Deep.AppendLies
namespace Go.Proofs.Ytonmdkhfongmhaa
open Go.RowKit

theorem fdiv_nz {a b : Nat} {s : Bool} {m n : Nat} {e f : Int} (ha : Ieee.single.read a = .number s m e) (hb : Ieee.single.read b = .number false n f) (hm : m ≠ 0) (hn : n ≠ 0)
    (h1 : -100 ≤ lg m e - lg n f) (h2 : lg m e - f ≤ 120) : ∃ c m' e', fdiv (some a) (some b) = some c ∧ Ieee.single.read c = .number s m' e' ∧ m' ≠ 0 := by
  obtain ⟨_, hcm, _⟩ := read_canon ha
  obtain ⟨_, hcn, _⟩ := read_canon hb
  have hlm : m.log2 ≤ 23 := by
    have : m < 2 ^ 24 := by rcases hcm with ⟨_, h⟩ | ⟨_, h⟩ <;> omega
    have := (Nat.log2_lt hm).2 this
    omega
  have hf : Ieee.single.fractionBits = 23 := rfl
  generalize hmore : 25 + n.log2 - m.log2 = more
  have h : fdiv (some a) (some b) = some (Ieee.single.write (.number (s ^^ false) (2 * ((m <<< more) / n) + ((m <<< more) % n != 0).toNat) (e - f - more - 1))) := by
    show ((Ieee.single.read a).quotient (Ieee.single.fractionBits + 2) (Ieee.single.read b)).map Ieee.single.write = _
    rw [ha, hb, hf]
    simp only [Ieee.Datum.quotient]
    rw [if_neg hn]
    simp only [Option.map_some]
    rw [show 23 + 2 + n.log2 - m.log2 = more from hmore]
  have hge : 2 ^ m.log2 ≤ m := Nat.log2_self_le hm
  have hlt : n < 2 ^ (n.log2 + 1) := Nat.lt_log2_self
  have hltm : m < 2 ^ (m.log2 + 1) := Nat.lt_log2_self
  have hq : 2 ^ 24 ≤ (m <<< more) / n := by
    rw [Nat.le_div_iff_mul_le (Nat.pos_of_ne_zero hn), Nat.shiftLeft_eq]
    calc 2 ^ 24 * n ≤ 2 ^ 24 * 2 ^ (n.log2 + 1) := Nat.mul_le_mul_left _ (Nat.le_of_lt hlt)
      _ = 2 ^ m.log2 * 2 ^ more := by rw [← Nat.pow_add, ← Nat.pow_add]; congr 1; omega
      _ ≤ m * 2 ^ more := Nat.mul_le_mul_right _ hge
  have hq2 : (m <<< more) / n < 2 ^ (m.log2 + 1 + more) := by
    refine Nat.lt_of_le_of_lt (Nat.div_le_self _ _) ?_
    rw [Nat.shiftLeft_eq, Nat.pow_add]
    exact Nat.mul_lt_mul_of_pos_right hltm (Nat.two_pow_pos _)
  have hb1 : ((m <<< more) % n != 0).toNat ≤ 1 := by cases ((m <<< more) % n != 0) <;> decide
  rw [h]
  generalize (m <<< more) / n = q at hq hq2
  generalize ((m <<< more) % n != 0).toNat = r at hb1
  have hz : 2 * q + r ≠ 0 := by omega
  have l1 : 25 ≤ (2 * q + r).log2 := (Nat.le_log2 hz).2 (by omega)
  have l2 : (2 * q + r).log2 < m.log2 + 1 + more + 2 := (Nat.log2_lt hz).2 (by rw [Nat.pow_add]; omega)
  unfold lg at h1 h2
  obtain ⟨m', e', k1, _, _, k4⟩ := nearest_data (s ^^ false) (2 * q + r) (e - f - more - 1) hz (by unfold lg; omega)
  obtain ⟨k5, _⟩ := k4 (by unfold lg; omega)
  refine ⟨_, m', e', rfl, ?_, k5⟩
  rw [show (s ^^ false) = s by cases s <;> rfl] at k1 ⊢
  exact k1

/-- Finite, and no zero with the sign set. -/
def Fz (x : F) (k : Int) : Prop := ∃ b s m e, x = some b ∧ Ieee.single.read b = .number s m e ∧ -149 ≤ e ∧ (m = 0 ∨ lg m e ≤ k) ∧ (m = 0 → s = false)
theorem lev_fz {l : Int} (h : -32768 ≤ l ∧ l ≤ 32767) : Fz (levF l) 12 := by
  by_cases h0 : l = 0
  · subst h0
    exact ⟨0, false, 0, -149, by decide +kernel, by decide +kernel, by omega, .inl rfl, fun _ => rfl⟩
  · have h16 : Ge (some 1098907648) 4 := ⟨1098907648, 8388608, -19, rfl, by decide +kernel, by omega, by omega, by decide +kernel⟩
    have hle : Le (levF l) 12 := div_to 12 (le_ofI2 (n := l) (k := 16) (by omega) (by omega)) h16 (by omega) (by omega) (by omega)
    obtain ⟨b, j, e1, e2, hj⟩ := ofI_read l (by omega)
    have hm : l.natAbs <<< j ≠ 0 := by rw [Nat.shiftLeft_eq]; exact Nat.mul_ne_zero (by omega) (Nat.pos_iff_ne_zero.1 (Nat.two_pow_pos _))
    have hlog : (l.natAbs <<< j).log2 = l.natAbs.log2 + j := log2_shl _ _ (by omega)
    have hlb : l.natAbs.log2 < 16 := (Nat.log2_lt (by omega)).2 (by omega)
    have hlg : lg (l.natAbs <<< j) (0 - (j : Int)) = (l.natAbs.log2 : Int) := by unfold lg; omega
    have hlg2 : lg 8388608 (-19) = 4 := by decide +kernel
    obtain ⟨c, m', e', k1, k2, k3⟩ := fdiv_nz e2 (show Ieee.single.read 1098907648 = .number false 8388608 (-19) by decide +kernel) hm (by omega) (by rw [hlg, hlg2]; omega) (by rw [hlg]; omega)
    have hc : levF l = some c := by unfold levF; rw [e1]; exact k1
    obtain ⟨c', s, m, e, q1, q2, q3, q4⟩ := hle
    rw [hc] at q1
    cases q1
    exact ⟨c, s, m, e, hc, q2, q3, q4, fun hz => by rw [k2] at q2; cases q2; exact absurd hz k3⟩
theorem fsub_nz {x y : F} (hx : Fz x 110) (hy : Le y 110) : fsub x y ≠ some 2147483648 := by
  obtain ⟨a, s, m, e, rfl, ha, he, hm, hz⟩ := hx
  obtain ⟨b, t, n, f, rfl, hb, hf, hn⟩ := hy
  have hs := sum_le (s := s) (t := !t) hm hn (Int.le_refl _) (Int.le_refl _)
  have hr : Ieee.single.read 2147483648 = .number true 0 (-149) := by decide +kernel
  have h : fsub (some a) (some b) = some (Ieee.single.write (.number (if Ieee.signed s m (e - min e f).toNat + Ieee.signed (!t) n (f - min e f).toNat = 0 then s && !t else decide (Ieee.signed s m (e - min e f).toNat + Ieee.signed (!t) n (f - min e f).toNat < 0)) (Ieee.signed s m (e - min e f).toNat + Ieee.signed (!t) n (f - min e f).toNat).natAbs (min e f))) := by
    show ((Ieee.single.read a).sum (Ieee.single.read b).opposite).map Ieee.single.write = _
    rw [ha, hb]; rfl
  rw [h]
  intro hc
  have hc := Option.some.inj hc
  by_cases h0 : Ieee.signed s m (e - min e f).toNat + Ieee.signed (!t) n (f - min e f).toNat = 0
  · rw [if_pos h0, h0] at hc
    have hst : (s && !t) = false := by
      cases s
      · rfl
      · have hm0 : m ≠ 0 := fun h => by have := hz h; cases this
        cases t
        · exfalso
          have e1 : Ieee.signed true m (e - min e f).toNat = -((m <<< (e - min e f).toNat : Nat) : Int) := rfl
          have e2 : Ieee.signed (!false) n (f - min e f).toNat = -((n <<< (f - min e f).toNat : Nat) : Int) := rfl
          rw [e1, e2] at h0
          have hM : m <<< (e - min e f).toNat ≠ 0 := by rw [Nat.shiftLeft_eq]; exact Nat.mul_ne_zero hm0 (Nat.pos_iff_ne_zero.1 (Nat.two_pow_pos _))
          generalize m <<< (e - min e f).toNat = M at h0 hM
          generalize n <<< (f - min e f).toNat = Q at h0
          omega
        · rfl
    rw [hst] at hc
    cases hc
  · have hmag : (Ieee.signed s m (e - min e f).toNat + Ieee.signed (!t) n (f - min e f).toNat).natAbs ≠ 0 := by omega
    obtain ⟨m', e', k1, _, _, k4⟩ := nearest_data (if Ieee.signed s m (e - min e f).toNat + Ieee.signed (!t) n (f - min e f).toNat = 0 then s && !t else decide (Ieee.signed s m (e - min e f).toNat + Ieee.signed (!t) n (f - min e f).toNat < 0)) _ (min e f) hmag (by have := hs.resolve_left hmag; omega)
    have k5 := (k4 (by unfold lg; omega)).1
    have hc' : Ieee.single.nearest (if Ieee.signed s m (e - min e f).toNat + Ieee.signed (!t) n (f - min e f).toNat = 0 then s && !t else decide (Ieee.signed s m (e - min e f).toNat + Ieee.signed (!t) n (f - min e f).toNat < 0)) (Ieee.signed s m (e - min e f).toNat + Ieee.signed (!t) n (f - min e f).toNat).natAbs (min e f) = 2147483648 := hc
    rw [hc', hr] at k1
    injection k1 with _ h5 _
    exact k5 h5.symm
/-- A difference of what is asked: finite, and never the zero with the sign set. -/
theorem dif_ok {a : Aq} {s : Si} {r : Rd} (h : SiOk a s r.t) (hr : r.Rng) (hp : plain (fb s.r) = true) : Le (difF a s r) 114 ∧ difF a s r ≠ some 2147483648 := by
  obtain ⟨b, sg, m, e, h1, h2, h3, h4, h5⟩ := lev_fz hr.2
  have hl : Le (levF r.l) 12 := ⟨b, sg, m, e, h1, h2, h3, h4⟩
  have hd : Le (downS a s r.t) 110 := down_le h hp
  exact ⟨sub_to 114 hl hd (by omega) (by omega) (by omega) (by omega), fsub_nz ⟨b, sg, m, e, h1, h2, h3, h4.imp id (by omega), h5⟩ hd⟩

theorem neg_lt {a : Nat} (h : a < 4294967296) (hs : 2147483648 ≤ a) (hz : a ≠ 2147483648) (hn : (Ieee.single.read a).isNaN = false) : flt (some a) (some 0) = true := by
  have ho : ford (some a) (some 0) = (Ieee.single.read a).order (Ieee.single.read 0) := rfl
  cases hr : Ieee.single.read a with
  | number s m e =>
    have hsg := read_sign hr
    rw [sign_of h, decide_eq_true hs] at hsg
    subst hsg
    obtain ⟨he, _, h3, _⟩ := read_canon hr
    have hv := val_of hr he
    rw [flt_val hv val_zero]
    refine decide_eq_true ?_
    have e1 : Ieee.signed true m (e + 149).toNat = -((m <<< (e + 149).toNat : Nat) : Int) := rfl
    rw [e1]
    have hm : m ≠ 0 := by
      rintro rfl
      have h5 := (read_canon hr).2.1
      have : e = -149 := by rcases h5 with ⟨h, _⟩ | ⟨h, _⟩ <;> omega
      subst this
      simp at h3
      omega
    have hM : m <<< (e + 149).toNat ≠ 0 := by rw [Nat.shiftLeft_eq]; exact Nat.mul_ne_zero hm (Nat.pos_iff_ne_zero.1 (Nat.two_pow_pos _))
    generalize m <<< (e + 149).toNat = M at hM
    omega
  | infinity s =>
    have hsg : s = true := by
      have hb : Ieee.single.binade = 8388608 := rfl
      have hi2 : Ieee.single.infRung = 2139095040 := rfl
      have hs2 : Ieee.single.signWeight = 2147483648 := rfl
      unfold Ieee.Format.read at hr
      simp only [hb, hi2, hs2] at hr
      rw [sign_of h, decide_eq_true hs] at hr
      split at hr
      · cases hr
      · split at hr
        · cases hr
        · split at hr
          · cases hr; rfl
          · cases hr
    subst hsg
    unfold flt
    rw [ho, hr, read0]; rfl
  | nan s t => rw [hr] at hn; cases hn

set_option maxHeartbeats 400000 in
theorem l03Size_exact (a : Nat) (w : World) (hf : Fits (fb a)) (hz : fb a ≠ some 2147483648) :
    Calls Try.prog 61 #[.float .f32 a] w (RetF (fabs (fb a)) w) := by
  have hlt := order_lt
  rcases fbOf_cases Ieee.single a with ⟨e1, hn⟩ | ⟨e1, hn⟩
  · have e1 : fb a = none := e1
    have hl : flt (fb a) (fb 0) = false := by rw [e1]; rfl
    have HS : Hid (fb a = fabs (fb a)) := by show _ = _; rw [e1]; rfl
    clear e1 hn hz
    go_enter Try.func61, Try.ntmps61
    go_wp2_with fail
    go_ret
    exact ⟨a, rfl, HS.out, Below.refl _ _⟩
  · have e1 : fb a = some a := e1
    have ha : a < 4294967296 := hf a e1
    obtain ⟨k1, k2⟩ := size_alike ha hn
    obtain ⟨_, hle⟩ := wide_size a hn
    have hz2 : a ≠ 2147483648 := fun h => hz (by rw [e1, h])
    cases hl : flt (some a) (some 0)
    · have hs : a < 2147483648 := by
        rcases Nat.lt_or_ge a 2147483648 with h | h
        · exact h
        · have := neg_lt ha h hz2 hn
          rw [hl] at this; cases this
      have HS : Hid (fb a = fabs (fb a)) := by
        show _ = _
        rw [e1, fabs_num a ha hle, Nat.mod_eq_of_lt hs]
      have hl2 : flt (fb a) (fb 0) = false := by rw [e1, fb0]; exact hl
      clear e1 hn k1 k2 hl hz
      go_enter Try.func61, Try.ntmps61
      go_wp2_with fail
      go_ret
      exact ⟨a, rfl, HS.out, Below.refl _ _⟩
    · have HS : Hid (fb (Op.negFloat .f32 a) = fabs (fb a)) := by
        show _ = _
        rw [e1, k1 hl]
        exact (opp_neg ha e1).2
      have hl2 : flt (fb a) (fb 0) = true := by rw [e1, fb0]; exact hl
      have hneg : ∀ w' : World, (Op.unary .neg (.float .f32 a)).run Try.prog w' = .ok (.float .f32 (Op.negFloat .f32 a)) w' := fun _ => rfl
      clear e1 hn k1 k2 hl hz
      go_enter Try.func61, Try.ntmps61
      go_wp2_with fail
      go_ret
      exact ⟨_, rfl, HS.out, Below.refl _ _⟩
end Go.Proofs.Ytonmdkhfongmhaa

namespace Go.Proofs.Ytonmdkhfongmhaa
open Go.RowKit

/-- The size of a difference. -/
def sizF (a : Aq) (s : Si) (r : Rd) : F := fabs (difF a s r)
/-- The misfit. -/
def misF (a : Aq) (s : Si) (l : List Rd) : F := sumX (l.map (sizF a s))
/-- What a misfit asks. -/
structure MisOk (a : Aq) (s : Si) (l : List Rd) : Prop where
  len : l.length ≤ 40
  down : ∀ r ∈ l, SiOk a s r.t
  rng : ∀ r ∈ l, r.Rng
  pl : plain (fb s.r) = true

theorem dif_fits (a : Aq) (s : Si) (r : Rd) : Fits (difF a s r) := fsub_fits _ _
def MsRel (a : Aq) (s : Si) (l : List Rd) (w : World) (v7 v8 : Value) (wr : World) : Prop :=
  ∃ (j : Nat) (bl : List Nat), j ≤ l.length ∧ v8 = .int .i64 j ∧ wr.ownsRow w.heap.size 24 1 v7 bl.length (flts bl) ∧ bl.map fb = (l.take j).map (sizF a s) ∧ Below w.heap.size w wr

set_option maxRecDepth 100000 in
set_option maxHeartbeats 3200000 in
theorem l04Misfit_any (a : Aq) (s : Si) (v : Value) (l : List Rd) (w : World) (hm : MisOk a s l) (hv : RAt w v l) :
    Calls Try.prog 66 #[.agg #[.float .f32 a.T, .float .f32 a.S], .agg s.cells, v] w (RetF (misF a s l) w) := by
  obtain ⟨i0, hi, hz0, hz1, hz2⟩ := info_parts Try.info24
  obtain ⟨aL, cap, rfl, hL⟩ := hv
  have HL := Lib.hid hL
  have HM := Lib.hid hm
  have hlen := hm.len
  clear hL hm
  go_enter Try.func66, Try.ntmps66
  go_wp2_with (with_reducible refine wpList_box rfl ?_)
  intro bA wA hA1 hA2 hA3 hA4
  go_wp2_with (with_reducible refine wpList_box rfl ?_)
  intro bS wS hS1 hS2 hS3 hS4
  have HG := Lib.hid (hA3.later hS4)
  have HSi := Lib.hid hS3
  have HBA := Lib.hid (below_next hA4 hS4)
  clear hA3 hA4 hS3 hS4
  go_wp2_with fail
  go_loopw [7, 8] (fun v7 v8 wr => MsRel a s l wS v7 v8 wr) (fun _ v8 _ => l.length - (intOf v8).toNat)
  case atStart => exact ⟨0, [], by omega, rfl, World.ownsRow_lit wS #[] 0 (Nat.le_refl _) (by simp [maxLen]) rfl, rfl, (Below.refl _ _).alloc (Nat.le_refl _) _⟩
  case round =>
    obtain ⟨j, bl, hj, rfl, hown, hbl, hBA⟩ := hrel
    have HO := Lib.hid hown
    have HBL := Lib.hid hbl
    have HBX := Lib.hid hBA
    have hbll : bl.length = j := by have := congrArg List.length hbl; rw [List.length_map, List.length_map, List.length_take] at this; omega
    clear hown hbl hBA
    by_cases hlt : j < l.length
    · obtain ⟨e, he⟩ : ∃ e, l[j]? = some e := ⟨_, List.getElem?_eq_getElem hlt⟩
      obtain ⟨hrng, gq, rfl, hq⟩ := HL.out j e he
      have hqA := range_below hq HBA.out
      have HE := Lib.hid he
      have HDE := Lib.hid (HM.out.down e (List.mem_of_getElem? he))
      have HDK := Lib.hid (dif_ok (HM.out.down e (List.mem_of_getElem? he)) hrng HM.out.pl)
      have j1 : (j : Int) < (l.length : Int) := by omega
      have hbs := HBX.out.size
      have KS : Hid (∀ w', Below wS.heap.size wS w' → w'.cell? ⟨bA, 0, none⟩ = some (.float .f32 a.T) ∧ w'.cell? ⟨bA, 1, none⟩ = some (.float .f32 a.S) ∧ w'.cell? ⟨gq, j * 2, none⟩ = some (.int .i64 e.t) ∧ w'.cell? ⟨gq, j * 2 + 1, none⟩ = some (.int .i16 e.l) ∧ w'.cell? ⟨bS, 0, none⟩ = some (.int .i8 s.x) ∧ w'.cell? ⟨bS, 1, none⟩ = some (.int .i8 s.y) ∧ w'.cell? ⟨bS, 2, none⟩ = some (.float .f32 s.r) ∧ w'.cell? ⟨bS, 3, none⟩ = some (.int .i8 s.px) ∧ w'.cell? ⟨bS, 4, none⟩ = some (.int .i8 s.py)) :=
        fun w' hb => ⟨(HG.out.later hb).at rfl, (HG.out.later hb).at rfl, cell_below hb (hqA 0 _ rfl), cell_below hb (hqA 1 _ rfl), (HSi.out.later hb).at rfl, (HSi.out.later hb).at rfl, (HSi.out.later hb).at rfl, (HSi.out.later hb).at rfl, (HSi.out.later hb).at rfl⟩
      obtain ⟨c0, c1, d0, d1, e0, e1, e2, e3, e4⟩ := KS.out wr HBX.out
      clear hq he hqA
      go_wp2_with fail
      go_region_held3 (fun w' => w'.cell? ⟨bA, 0, none⟩ = some (.float .f32 a.T) ∧ w'.cell? ⟨bA, 1, none⟩ = some (.float .f32 a.S) ∧ w'.cell? ⟨gq, j * 2, none⟩ = some (.int .i64 e.t) ∧ w'.cell? ⟨gq, j * 2 + 1, none⟩ = some (.int .i16 e.l) ∧ w'.cell? ⟨bS, 0, none⟩ = some (.int .i8 s.x) ∧ w'.cell? ⟨bS, 1, none⟩ = some (.int .i8 s.y) ∧ w'.cell? ⟨bS, 2, none⟩ = some (.float .f32 s.r) ∧ w'.cell? ⟨bS, 3, none⟩ = some (.int .i8 s.px) ∧ w'.cell? ⟨bS, 4, none⟩ = some (.int .i8 s.py)) (first | exact ⟨c0, c1, d0, d1, e0, e1, e2, e3, e4⟩ | exact KS.out _ (below_next (below_drew HBX.out) hb5) | exact KS.out _ (below_next (below_next (below_drew HBX.out) hb5) hb6) | exact KS.out _ ((below_next (below_next (below_drew HBX.out) hb5) hb6).alloc (Nat.le_trans (show wS.heap.size ≤ wr.drew.heap.size from hbs) (Nat.le_trans hb5.size hb6.size)) _) | exact KS.out _ HX7 | go_keep) (first | (go_at_call 60; refine (l04Difference_any a s e _ HDE.out).mono ?_; rintro e5 w5 ⟨q0, rfl, hq0, hb5⟩) | (go_at_call 61; refine (l03Size_exact q0 _ (by rw [hq0.out]; exact dif_fits _ _ _) (by rw [hq0.out]; exact HDK.out.2)).mono ?_; rintro e6 w6 ⟨q, rfl, hq, hb6⟩) | (refine step_append_lies _ rfl _ _ 77 rfl wS.heap.size 24 i0 (.float .f32 0) 1 4 Try.underlying77 hi hz0 hz1 hz2 rfl (by decide) _ _ _ rfl ((owns_belowN (owns_belowN (w := wr.drew) HO.out hb5) hb6).alloc _) ⟨w6.heap.size, 0, none⟩ 1 1 [.float .f32 q] rfl rfl (cell_one_new _ _ _) (by simp [Value.oneCell']) (by decide) (by unfold maxLen; omega) (by omega) (by have h9 : wS.heap.size ≤ w6.heap.size := Nat.le_trans (show wS.heap.size ≤ wr.drew.heap.size from hbs) (Nat.le_trans hb5.size hb6.size); simp; omega) _ rfl ?_; intro gA capA w7 hown7 hgrow hat hlt7; have HX7 : Below wS.heap.size wS w7 := ((below_next (below_next (below_drew HBX.out) hb5) hb6).alloc (Nat.le_trans (show wS.heap.size ≤ wr.drew.heap.size from hbs) (Nat.le_trans hb5.size hb6.size)) _).grown hgrow (by have h9 : wS.heap.size ≤ w6.heap.size := Nat.le_trans (show wS.heap.size ≤ wr.drew.heap.size from hbs) (Nat.le_trans hb5.size hb6.size); simp; omega) (fun q hq => (HO.out.lt q hq).1)))
      have HO7 := Lib.hid hown7
      have HX8 := Lib.hid HX7
      clear hown7 hgrow HX7
      go_wp2_with fail
      go_roundw
      case rel =>
        refine ⟨j + 1, bl ++ [q], by omega, by go_num, ?_, ?_, HX8.out⟩
        · rw [flts_snoc, List.length_append]; have h7 := HO7.out; show World.ownsRow _ _ _ 1 _ (bl.length + 1) _; rw [hbll] at h7 ⊢; exact h7
        · rw [List.map_append, HBL.out, take_more' HE.out, List.map_append]
          show _ ++ [fb q] = _
          rw [hq.out, hq0.out]; rfl
      case measure => simp [intOf]; omega
    · have j1 : ¬ (j : Int) < (l.length : Int) := by omega
      rw [List.take_of_length_le (by omega)] at HBL
      go_wp2_with fail
      refine (l03Sum_any _ bl wr (by omega) (flist_of HO.out)).mono ?_
      rintro e6 w6 ⟨q, rfl, hq, hb6⟩
      have HQ := Lib.hid hq
      have HB6 := Lib.hid (below_next (below_next HBA.out HBX.out) hb6)
      clear hq hb6
      go_wp2_with fail
      go_ret
      refine ⟨q, rfl, ?_, HB6.out⟩
      show fb q = _
      rw [HQ.out.out, sumB_eq, HBL.out]; rfl
end Go.Proofs.Ytonmdkhfongmhaa

namespace Go.Proofs.Ytonmdkhfongmhaa
open Go.RowKit

def DfRel (a : Aq) (s : Si) (l : List Rd) (w : World) (v7 v13 : Value) (wr : World) : Prop :=
  ∃ (j : Nat) (bl : List Nat), j ≤ l.length ∧ v13 = .int .i64 j ∧ wr.ownsRow w.heap.size 24 1 v7 bl.length (flts bl) ∧ bl.map fb = (l.take j).map (difF a s) ∧ Below w.heap.size w wr

set_option maxRecDepth 100000 in
set_option maxHeartbeats 3200000 in
theorem differences_any (p : Nat) (a : Aq) (s : Si) (v : Value) (l : List Rd) (w : World) (hm : MisOk a s l) (hs : Blk w p s.cells 46) (hv : RAt w v l) :
    Calls Try.prog 64 #[.pointer (some ⟨p, 0, none⟩), .agg #[.float .f32 a.T, .float .f32 a.S], v] w fun e w' => ∃ u bl, e = .returned u ∧ w'.ownsRow w.heap.size 24 1 u bl.length (flts bl) ∧ bl.map fb = l.map (difF a s) ∧ Below w.heap.size w w' := by
  obtain ⟨i0, hi, hz0, hz1, hz2⟩ := info_parts Try.info24
  obtain ⟨aL, cap, rfl, hL⟩ := hv
  have HL := Lib.hid hL
  have HM := Lib.hid hm
  have hlen := hm.len
  have HS0 := Lib.hid hs
  clear hL hm hs
  go_enter Try.func64, Try.ntmps64
  go_wp2_with (with_reducible refine wpList_box rfl ?_)
  intro bA wS hA1 hA2 hA3 hA4
  have HG := Lib.hid hA3
  have HSi := Lib.hid (HS0.out.later hA4)
  have HBA := Lib.hid hA4
  clear hA3 hA4
  go_wp2_with fail
  go_loopw [7, 13] (fun v7 v13 wr => DfRel a s l wS v7 v13 wr) (fun _ v13 _ => l.length - (intOf v13).toNat)
  case atStart => exact ⟨0, [], by omega, rfl, World.ownsRow_lit wS #[] 0 (Nat.le_refl _) (by simp [maxLen]) rfl, rfl, (Below.refl _ _).alloc (Nat.le_refl _) _⟩
  case round =>
    obtain ⟨j, bl, hj, rfl, hown, hbl, hBA⟩ := hrel
    have HO := Lib.hid hown
    have HBL := Lib.hid hbl
    have HBX := Lib.hid hBA
    have hbll : bl.length = j := by have := congrArg List.length hbl; rw [List.length_map, List.length_map, List.length_take] at this; omega
    clear hown hbl hBA
    by_cases hlt : j < l.length
    · obtain ⟨e, he⟩ : ∃ e, l[j]? = some e := ⟨_, List.getElem?_eq_getElem hlt⟩
      obtain ⟨hrng, gq, rfl, hq⟩ := HL.out j e he
      have HQ := Lib.hid (range_below (range_below hq HBA.out) HBX.out)
      have HE := Lib.hid he
      have HDE := Lib.hid (HM.out.down e (List.mem_of_getElem? he))
      have HDK := Lib.hid (dif_ok (HM.out.down e (List.mem_of_getElem? he)) hrng HM.out.pl)
      have j1 : (j : Int) < (l.length : Int) := by omega
      have hbs := HBX.out.size
      clear hq he
      go_wp2_with (first | ((with_reducible refine wpList_gateL ?_); refine wpList_load_mid rfl _ _ rfl gq (j * 2) rfl e.cells _ HQ.out Try.underlying81 rfl sizeRd ?_) | (with_reducible refine wpList_new newR ?_))
      intro B wB hB1 hB2 hB3 hB4
      have hOl : ∀ q, Value.ownBlock _ = some q → q < wr.heap.size := fun q hq => (HO.out.lt q hq).2
      have HO3 := Lib.hid (owns_belowN HO.out hB4)
      have HX3 := Lib.hid (below_next HBX.out hB4)
      clear hB4
      go_wp2_with ((with_reducible refine wpList_gateS ?_); refine wpList_put (cells := #[.int .i64 e.t, .int .i16 e.l]) hB3 sizeRd rfl (by simp [Value.oneCell']) rfl rfl ?_)
      intro w3 s3 b3 k3
      have HO4 := Lib.hid (owns_farN HO3.out k3 (fun q hq => by have := hOl q hq; omega))
      have HX4 := Lib.hid (below_grown HX3.out k3 HX3.out.size (by omega))
      have HB3 := Lib.hid b3
      clear hB3 k3 s3 b3
      have hbs4 := HX4.out.size
      have KS : Hid (∀ w', Below w3.heap.size w3 w' → w'.cell? ⟨bA, 0, none⟩ = some (.float .f32 a.T) ∧ w'.cell? ⟨bA, 1, none⟩ = some (.float .f32 a.S) ∧ w'.cell? ⟨B, 0, none⟩ = some (.int .i64 e.t) ∧ w'.cell? ⟨B, 1, none⟩ = some (.int .i16 e.l) ∧ w'.cell? ⟨p, 0, none⟩ = some (.int .i8 s.x) ∧ w'.cell? ⟨p, 1, none⟩ = some (.int .i8 s.y) ∧ w'.cell? ⟨p, 2, none⟩ = some (.float .f32 s.r) ∧ w'.cell? ⟨p, 3, none⟩ = some (.int .i8 s.px) ∧ w'.cell? ⟨p, 4, none⟩ = some (.int .i8 s.py)) :=
        fun w' hb => by
          have hb' := below_next HX4.out hb
          exact ⟨(HG.out.later hb').at rfl, (HG.out.later hb').at rfl, (HB3.out.later hb).at rfl, (HB3.out.later hb).at rfl, (HSi.out.later hb').at rfl, (HSi.out.later hb').at rfl, (HSi.out.later hb').at rfl, (HSi.out.later hb').at rfl, (HSi.out.later hb').at rfl⟩
      obtain ⟨c0, c1, d0, d1, e0, e1, e2, e3, e4⟩ := KS.out w3 (Below.refl _ _)
      obtain ⟨_, hnz⟩ := HDK.out
      have HC : Hid (∃ c, difF a s e = some c) := by obtain ⟨b', _, _, _, h1, _⟩ := HDK.out.1; exact ⟨b', h1⟩
      obtain ⟨c, hc⟩ := HC.out
      have HCC := Lib.hid hc
      clear hc hnz
      have HSP : Hid (Blk w3 p s.cells 46) := HSi.out.later HX4.out
      go_wp2_with fail
      go_region_held3 (fun w' => w'.cell? ⟨bA, 0, none⟩ = some (.float .f32 a.T) ∧ w'.cell? ⟨bA, 1, none⟩ = some (.float .f32 a.S) ∧ w'.cell? ⟨B, 0, none⟩ = some (.int .i64 e.t) ∧ w'.cell? ⟨B, 1, none⟩ = some (.int .i16 e.l) ∧ w'.cell? ⟨p, 0, none⟩ = some (.int .i8 s.x) ∧ w'.cell? ⟨p, 1, none⟩ = some (.int .i8 s.y) ∧ w'.cell? ⟨p, 2, none⟩ = some (.float .f32 s.r) ∧ w'.cell? ⟨p, 3, none⟩ = some (.int .i8 s.px) ∧ w'.cell? ⟨p, 4, none⟩ = some (.int .i8 s.py)) (first | exact ⟨c0, c1, d0, d1, e0, e1, e2, e3, e4⟩ | exact KS.out _ (below_next (below_drew (Below.refl w3.heap.size w3)) hb5) | exact KS.out _ (below_next (below_next (below_drew (Below.refl w3.heap.size w3)) hb5) hb6) | exact KS.out _ (((below_next (below_next (below_drew (Below.refl w3.heap.size w3)) hb5) hb6)).alloc (Nat.le_trans hb5.size hb6.size) _) | exact ⟨(HG.out.later HX7).at rfl, (HG.out.later HX7).at rfl, h7B.at rfl, h7B.at rfl, (HSi.out.later HX7).at rfl, (HSi.out.later HX7).at rfl, (HSi.out.later HX7).at rfl, (HSi.out.later HX7).at rfl, (HSi.out.later HX7).at rfl⟩ | go_keep) (first | (go_at_call 54; refine (LevelOf_any e.t e.l _).mono ?_; rintro e5 w5 ⟨q1, rfl, hq1, hb5⟩) | (go_at_call 77; refine (drawS_any p a s e.t _ HDE.out (HSP.out.later (below_next (below_drew (Below.refl w3.heap.size w3)) hb5))).mono ?_; rintro e6 w6 ⟨q2, rfl, hq2, hb6⟩; have hsub : ∀ w', (binOp .sub 24 (.float .f32 q1) (.float .f32 q2)).run Try.prog w' = .ok (.float .f32 c) w' := fun w' => run_arith_some (w := w') rfl (by rw [← HCC.out]; show fsub _ _ = _; rw [hq1.out, hq2.out]; rfl)) | (refine step_append_lies _ rfl _ _ 77 rfl wS.heap.size 24 i0 (.float .f32 0) 1 4 Try.underlying77 hi hz0 hz1 hz2 rfl (by decide) _ _ _ rfl ((owns_belowN (owns_belowN (w := w3.drew) HO4.out hb5) hb6).alloc _) ⟨w6.heap.size, 0, none⟩ 1 1 [.float .f32 c] rfl rfl (cell_one_new _ _ _) (by simp [Value.oneCell']) (by decide) (by unfold maxLen; omega) (by omega) (by have h9 : wS.heap.size ≤ w6.heap.size := Nat.le_trans (show wS.heap.size ≤ w3.drew.heap.size from hbs4) (Nat.le_trans hb5.size hb6.size); simp; omega) _ rfl ?_; intro gA capA w7 hown7 hgrow hat hlt7; have HX7 : Below wS.heap.size wS w7 := ((below_next (below_next (below_drew HX4.out) hb5) hb6).alloc (Nat.le_trans (show wS.heap.size ≤ w3.drew.heap.size from hbs4) (Nat.le_trans hb5.size hb6.size)) _).grown hgrow (by have h9 : wS.heap.size ≤ w6.heap.size := Nat.le_trans (show wS.heap.size ≤ w3.drew.heap.size from hbs4) (Nat.le_trans hb5.size hb6.size); simp; omega) (fun q hq => (HO4.out.lt q hq).1); have h6B := (((HB3.out.later (below_drew (Below.refl w3.heap.size w3))).later hb5).later hb6).alloc (.cells #[.float .f32 c] 24); have h7B : Blk w7 B #[.int .i64 e.t, .int .i16 e.l] 81 := (hgrow.block B h6B.lt (fun hq => by have := hOl B hq.symm; omega)).trans h6B))
      have HO7 := Lib.hid hown7
      have HX8 := Lib.hid HX7
      clear hown7 hgrow HX7
      go_wp2_with fail
      go_roundw
      case rel =>
        refine ⟨j + 1, bl ++ [c], by omega, by go_num, ?_, ?_, HX8.out⟩
        · rw [flts_snoc, List.length_append]; have h7 := HO7.out; show World.ownsRow _ _ _ 1 _ (bl.length + 1) _; rw [hbll] at h7 ⊢; exact h7
        · rw [List.map_append, HBL.out, take_more' HE.out, List.map_append]
          show _ ++ [fb c] = _ ++ [difF a s e]
          rw [HCC.out]
          have hfc : fb c = some c := by
            obtain ⟨b', s', m', e', q1', q2', _⟩ := HDK.out.1
            rw [HCC.out] at q1'
            cases q1'
            unfold fb fbOf
            rw [q2']; rfl
          rw [hfc]
      case measure => simp [intOf]; omega
    · have j1 : ¬ (j : Int) < (l.length : Int) := by omega
      rw [List.take_of_length_le (by omega)] at HBL
      go_wp2_with fail
      go_ret
      exact ⟨_, rfl, bl, owns_monoN HO.out HBA.out.size, HBL.out, below_next HBA.out HBX.out⟩
end Go.Proofs.Ytonmdkhfongmhaa

namespace Go.Proofs.Ytonmdkhfongmhaa
open Go.RowKit

def MiRel (a : Aq) (s : Si) (l : List Rd) (B : Nat) (w : World) (u : Value) (v15 : Value) (wr : World) : Prop :=
  ∃ (j : Nat) (bl : List Nat), j ≤ l.length ∧ v15 = .int .i64 j ∧ wr.ownsRow B 24 1 u l.length (flts bl) ∧ bl.length = l.length ∧ bl.map fb = (l.take j).map (sizF a s) ++ (l.drop j).map (difF a s) ∧ Below B w wr

set_option maxRecDepth 100000 in
set_option maxHeartbeats 3200000 in
theorem misfit_any (p : Nat) (a : Aq) (s : Si) (v : Value) (l : List Rd) (w : World) (hm : MisOk a s l) (hs : Blk w p s.cells 46) (hv : RAt w v l) :
    Calls Try.prog 67 #[.pointer (some ⟨p, 0, none⟩), .agg #[.float .f32 a.T, .float .f32 a.S], v] w (RetF (misF a s l) w) := by
  have HM := Lib.hid hm
  have HS0 := Lib.hid hs
  have HV := Lib.hid hv
  have hlen := hm.len
  clear hm hs hv
  go_enter Try.func67, Try.ntmps67
  go_wp2_with (with_reducible refine wpList_box rfl ?_)
  intro bA wA hA1 hA2 hA3 hA4
  have HBA := Lib.hid hA4
  go_wp2_with ((with_reducible refine wpList_get hA3 Try.underlying42 rfl (by kernel_rfl) ?_ ?_); rfl)
  refine (differences_any p a s v l wA HM.out (HS0.out.later hA4) (HV.out.far hA4)).mono ?_
  clear hA3 hA4
  rintro e w2 ⟨u, bl, rfl, hown, hbl, hb2⟩
  have hbll : bl.length = l.length := by have := congrArg List.length hbl; simpa using this
  rw [hbll] at hown
  obtain ⟨ua, ucap, rfl⟩ : ∃ a cap, u = .slice a l.length cap := by
    rcases hown.2 with ⟨rfl, h0⟩ | ⟨g, cap, _, rfl, _⟩
    · exact ⟨none, 0, by rw [h0]⟩
    · exact ⟨_, cap, rfl⟩
  have HO := Lib.hid hown
  have HB2 := Lib.hid hb2
  have HBL := Lib.hid hbl
  clear hown hb2 hbl
  go_wp2_with fail
  go_loopw [15] (fun v15 wr => MiRel a s l wA.heap.size wA (.slice ua l.length ucap) v15 wr) (fun v15 _ => l.length - (intOf v15).toNat)
  case atStart => exact ⟨0, bl, by omega, rfl, HO.out, hbll, by simpa using HBL.out, HB2.out⟩
  case round =>
    obtain ⟨j, bl', hj, rfl, hown, hbl', hmap, hB⟩ := hrel
    have HO := Lib.hid hown
    have HMP := Lib.hid hmap
    have HB := Lib.hid hB
    have HBl := Lib.hid hbl'
    clear hown hmap hB hbl'
    by_cases hlt : j < l.length
    · obtain ⟨e, he⟩ : ∃ e, l[j]? = some e := ⟨_, List.getElem?_eq_getElem hlt⟩
      obtain ⟨c, hc⟩ : ∃ c, bl'[j]? = some c := ⟨_, List.getElem?_eq_getElem (by rw [HBl.out]; exact hlt)⟩
      have hfc : fb c = difF a s e := by
        have h1 := congrArg (fun x : List F => x[j]?) HMP.out
        simp only [List.getElem?_map, hc, Option.map_some] at h1
        rw [List.getElem?_append_right (by simp; omega)] at h1
        have hl : ((l.take j).map (sizF a s)).length = j := by simp; omega
        rw [hl, Nat.sub_self, List.getElem?_map, List.getElem?_drop, Nat.add_zero, he] at h1
        simpa using h1
      obtain ⟨g, hg⟩ : ∃ g, ua = some ⟨g, 0, none⟩ := by
        rcases HO.out.2 with ⟨_, h0⟩ | ⟨g, cap, _, h1, _⟩
        · omega
        · exact ⟨g, by cases h1; rfl⟩
      subst hg
      have c0 : wr.cell? ⟨g, j, none⟩ = some (.float .f32 c) := by
        rw [World.ownsRow.cellAt HO.out j (by omega)]
        simp [flts, hc]
      have hgB : wA.heap.size ≤ g := (HO.out.lt g rfl).1
      have HFC := Lib.hid hfc
      have HE := Lib.hid he
      have HC := Lib.hid hc
      have j1 : (j : Int) < (l.length : Int) := by omega
      clear hfc he hc
      go_wp2_with (go_at_call 96; refine (size_any c (difF a s e) _ HFC.out (dif_fits _ _ _)).mono ?_; rintro e5 w5 ⟨q, rfl, hq, hb5⟩; have HQ := Lib.hid hq; have HO5 := Lib.hid (owns_belowN HO.out hb5); have HB5 := Lib.hid (below_next HB.out hb5); have c5 := cell_below hb5 c0; have cF := World.ownsRow.frozenAt HO5.out j; have hst : (store ⟨g, j, none⟩ (.float .f32 q)).run Try.prog w5 = .ok () (w5.setCell ⟨g, j, none⟩ (.float .f32 q)) := by rw [run_store Try.prog _ _ _ _ rfl, c5, cF]; rfl)
      go_roundw
      case rel =>
        obtain ⟨o1, o2⟩ := HO5.out.stored j (.float .f32 q)
        refine ⟨j + 1, bl'.set j q, by omega, by go_num, ?_, by rw [List.length_set]; exact HBl.out, ?_, below_grown HB5.out o2 HB5.out.size hgB⟩
        · rw [show flts (bl'.set j q) = (flts bl').set j (.float .f32 q) by simp [flts]]; exact o1
        · have hl : ((l.take j).map (sizF a s)).length = j := by simp; omega
          rw [List.map_set, HMP.out, List.set_append_right _ _ (by omega), hl, Nat.sub_self, List.drop_eq_getElem_cons (by omega), List.map_cons, List.set_cons_zero, take_more' HE.out, List.map_append, List.append_assoc]
          have : fb q = sizF a s e := HQ.out.out
          rw [this]; rfl
      case measure => simp [intOf]; omega
    · have j1 : ¬ (j : Int) < (l.length : Int) := by omega
      have HF : Hid (FListAt wr (.slice ua l.length ucap) bl') := by
        have h1 := HO.out
        rw [← HBl.out] at h1 ⊢
        exact flist_of h1
      have HB6 := Lib.hid (below_next HBA.out HB.out)
      go_wp2_with fail
      refine (sum_any _ bl' wr (by rw [HBl.out]; omega) HF.out).mono ?_
      rintro e6 w6 ⟨q, rfl, hq, hb6⟩
      have HQ := Lib.hid hq
      have HB7 := Lib.hid (below_next HB6.out hb6)
      clear hq hb6
      go_wp2_with fail
      go_ret
      refine ⟨q, rfl, ?_, HB7.out⟩
      show fb q = _
      rw [HQ.out.out, sumB_eq, HMP.out, List.take_of_length_le (by omega), List.drop_eq_nil_of_le (by omega)]
      simp [misF]
end Go.Proofs.Ytonmdkhfongmhaa

namespace Go.Proofs.Ytonmdkhfongmhaa
open Go.RowKit

def Aq.ok (e : Aq) : Bool := okA (fb e.T) (fb e.S)

set_option maxRecDepth 100000 in
set_option maxHeartbeats 800000 in
theorem badAq_any (T S : Nat) (w : World) : Calls Try.prog 95 #[.agg #[.float .f32 T, .float .f32 S]] w (RetB (!okA (fb T) (fb S)) w) := by
  go_enter Try.func95, Try.ntmps95
  go_wp2_with (with_reducible refine wpList_box rfl ?_)
  intro b w1 hB1 hB2 hB3 hB4
  have HB := Lib.hid hB4
  clear hB4
  go_wp2_with (first | ((with_reducible refine wpList_get hB3 Try.underlying42 rfl (by kernel_rfl) ?_ ?_); rfl) | (go_at_call 73; refine (ValidAquifer_any T S _).mono ?_; rintro e w2 ⟨rfl, hb2⟩))
  go_ret
  exact ⟨rfl, below_next HB.out hb2⟩

def AidxRel (l : List Aq) (w : World) (v8 : Value) (wr : World) : Prop := ∃ j : Nat, j ≤ l.length ∧ v8 = .int .i64 j ∧ (∀ e ∈ l.take j, e.ok = true) ∧ Below w.heap.size w wr

set_option maxRecDepth 100000 in
set_option maxHeartbeats 800000 in
theorem IndexA_any (v : Value) (l : List Aq) (w : World) (hlen : l.length < 9223372036854775808) (hv : AAt w v l) :
    Calls Try.prog 115 #[v, .func (.func 95) #[] #[]] w fun e w' => ∃ z, e = .returned (.int .i64 z) ∧ decide (0 ≤ z) = !(l.all Aq.ok) ∧ Below w.heap.size w w' := by
  obtain ⟨aL, cap, rfl, hL⟩ := hv
  have HL := Lib.hid hL
  clear hL
  go_enter Try.func115, Try.ntmps115
  go_wp2_with fail
  go_loopw [8] (fun v8 wr => AidxRel l w v8 wr) (fun v8 _ => l.length - (intOf v8).toNat)
  case atStart => exact ⟨0, by omega, rfl, by simp, Below.refl _ _⟩
  case round =>
    obtain ⟨j, hj, rfl, hall, hB⟩ := hrel
    have HB := Lib.hid hB
    have HALL := Lib.hid hall
    clear hB hall
    by_cases hlt : j < l.length
    · obtain ⟨e, he⟩ : ∃ e, l[j]? = some e := ⟨_, List.getElem?_eq_getElem hlt⟩
      obtain ⟨hrng, gq, rfl, hq⟩ := HL.out j e he
      have HQ := Lib.hid (range_below hq HB.out)
      have HE := Lib.hid he
      have j1 : (j : Int) < (l.length : Int) := by omega
      clear hq he
      cases hok : e.ok
      · have HOK : Hid ((!okA (fb e.T) (fb e.S)) = true) := by show (!okA (fb e.T) (fb e.S)) = true; unfold Aq.ok at hok; rw [hok]; rfl
        have HR : Hid (l.all Aq.ok = false) := by
          show _ = _
          rw [List.all_eq_false]
          exact ⟨e, List.mem_of_getElem? HE.out, by rw [hok]; decide⟩
        clear hok
        go_wp2_with (first | ((with_reducible refine wpList_gateL ?_); refine wpList_load_mid rfl _ _ rfl gq (j * 2) rfl e.cells _ HQ.out Try.underlying42 rfl sizeAq ?_) | (go_at_call 95; refine (badAq_any e.T e.S _).mono ?_; rw [HOK.out]; rintro e2 w2 ⟨rfl, hb2⟩))
        go_ret
        exact ⟨j, rfl, by rw [HR.out]; exact decide_eq_true (by omega), below_next HB.out hb2⟩
      · have HOK : Hid ((!okA (fb e.T) (fb e.S)) = false) := by show (!okA (fb e.T) (fb e.S)) = false; unfold Aq.ok at hok; rw [hok]; rfl
        have HOK2 := Lib.hid hok
        clear hok
        go_wp2_with (first | ((with_reducible refine wpList_gateL ?_); refine wpList_load_mid rfl _ _ rfl gq (j * 2) rfl e.cells _ HQ.out Try.underlying42 rfl sizeAq ?_) | (go_at_call 95; refine (badAq_any e.T e.S _).mono ?_; rw [HOK.out]; rintro e2 w2 ⟨rfl, hb2⟩))
        go_roundw
        case rel =>
          refine ⟨j + 1, by omega, by go_num, fun e' he' => ?_, below_next HB.out hb2⟩
          rw [take_more' HE.out, List.mem_append] at he'
          rcases he' with h | h
          · exact HALL.out e' h
          · rw [List.mem_singleton.1 h]; exact HOK2.out
        case measure => simp [intOf]; omega
    · have j1 : ¬ (j : Int) < (l.length : Int) := by omega
      have HR : Hid (l.all Aq.ok = true) := by
        show _ = _
        rw [List.all_eq_true]
        intro e he
        have := HALL.out e
        rw [List.take_of_length_le (by omega)] at this
        exact this he
      go_wp2_with fail
      go_ret
      exact ⟨-1, rfl, by rw [HR.out]; rfl, HB.out⟩

set_option maxHeartbeats 800000 in
theorem ContainsA_any (v : Value) (l : List Aq) (w : World) (hlen : l.length < 9223372036854775808) (hv : AAt w v l) :
    Calls Try.prog 94 #[v, .func (.func 95) #[] #[]] w (RetB (!(l.all Aq.ok)) w) := by
  go_enter Try.func94, Try.ntmps94
  go_wp2_with fail
  refine (IndexA_any v l w hlen hv).mono ?_
  rintro e w2 ⟨z, rfl, hz, hb2⟩
  go_wp2_with fail
  all_goals
    go_ret
    refine ⟨ret_bool ?_, hb2⟩
    rw [← hz]


end Go.Proofs.Ytonmdkhfongmhaa

namespace Go.Proofs.Ytonmdkhfongmhaa
open Go.RowKit

def askF (A : Bool) (s : Si) (l : List Rd) : Int := if A && s.ok && okR l then 0 else 1

theorem wpList_getgd {P : Program} {ops : Array Oper} {Q : Exit → Act → World → Prop} {rest : List Oper} {a : Act} {w : World} {dst : Option Tmp} {T ty : TypeId} {X : Operand} {pos : String} {after : Array Edge} {gd : Option (Nat × Bool)}
    {g : Nat} {cells : Array Value} {t : TypeId} {d : TypeDesc} (hgd : Region.wanted ⟨dst, .load T X, ty, pos, after, gd⟩ (yielded ops a.tmps) = true) (hg : Blk w g cells t) (hu : P.underlying T = some d) (hd : (match d with | .struct _ | .array _ _ => true | _ => false) = true) (hi : (P.info? T).map (·.size) = some cells.size)
    (hx : a.eval X = .pointer (some ⟨g, 0, none⟩)) (h : wpList P ops Q rest (a.put dst (.agg cells)) w) : wpList P ops Q (⟨dst, .load T X, ty, pos, after, gd⟩ :: rest) a w := by
  refine wpList_step fun K hK => ?_
  rw [if_pos hgd]
  unfold Oper.wp
  have hl := run_loadVar_row w g _ _ _ _ _ hg hu hd hi
  have : (execOp a.eval ⟨dst, .load T X, ty, pos, after, gd⟩).run P w = .ok (.value (.agg cells)) w := by
    simp only [execOp, hx, Instr.loadAt, Instr.sureAddr]
    simp [hl]
  rw [this]
  exact hK _ _ h

set_option maxRecDepth 100000 in
set_option maxHeartbeats 1600000 in
theorem fitFault_any (s : Si) (hs : s.Rng) (v vg : Value) (l : List Rd) (gs : List Aq) (w : World) (hlen : l.length ≤ 1048576) (hg : gs.length < 9223372036854775808) (hv : RAt w v l) (hvg : AAt w vg gs) :
    Calls Try.prog 63 #[.agg s.cells, v, vg] w fun e w' => e = .returned (.int .i64 (askF (gs.all Aq.ok) s l)) ∧ Below w.heap.size w w' := by
  have HS := Lib.hid hs
  have HV := Lib.hid hv
  have HVG := Lib.hid hvg
  clear hs hv hvg
  cases ha : gs.all Aq.ok
  · have HA := Lib.hid ha
    have HK : Hid (askF false s l = 1) := rfl
    clear ha
    go_enter Try.func63, Try.ntmps63
    go_wp2_with (with_reducible refine wpList_box rfl ?_)
    intro b w1 hB1 hB2 hB3 hB4
    have HB := Lib.hid hB4
    have HBk := Lib.hid hB3
    clear hB3 hB4
    go_wp2_with fail
    refine (ContainsA_any vg gs w1 hg (HVG.out.far HB.out)).mono ?_
    rw [HA.out]
    rintro e w2 ⟨rfl, hb2⟩
    have HB2 := Lib.hid (below_next HB.out hb2)
    have HBk2 := Lib.hid (HBk.out.later hb2)
    clear hb2
    go_wp2_with fail
    go_ret
    exact ⟨by rw [HK.out]; rfl, HB2.out⟩
  · have HA := Lib.hid ha
    clear ha
    cases hso : s.ok
    · have HSO := Lib.hid hso
      have HK : Hid (askF true s l = 1) := by show _ = _; unfold askF; rw [hso]; rfl
      clear hso
      go_enter Try.func63, Try.ntmps63
      go_wp2_with (with_reducible refine wpList_box rfl ?_)
      intro b w1 hB1 hB2 hB3 hB4
      have HB := Lib.hid hB4
      have HBk := Lib.hid hB3
      clear hB3 hB4
      go_wp2_with fail
      refine (ContainsA_any vg gs w1 hg (HVG.out.far HB.out)).mono ?_
      rw [HA.out]
      rintro e w2 ⟨rfl, hb2⟩
      have HB2 := Lib.hid (below_next HB.out hb2)
      have HBk2 := Lib.hid (HBk.out.later hb2)
      clear hb2
      go_wp2_with ((with_reducible refine wpList_getgd ?_ HBk2.out Try.underlying46 rfl (by kernel_rfl) ?_ ?_); (exact rfl); rfl)
      refine (ValidSite_any s HS.out w2).mono ?_
      rw [HSO.out]
      rintro e w3 ⟨rfl, hb3⟩
      have HB3 := Lib.hid (below_next HB2.out hb3)
      clear hb3
      go_wp2_with fail
      go_ret
      exact ⟨by rw [HK.out]; rfl, HB3.out⟩
    · have HSO := Lib.hid hso
      cases hro : okR l
      · have HRO := Lib.hid hro
        have HK : Hid (askF true s l = 1) := by show _ = _; unfold askF; rw [hso, hro]; rfl
        clear hso hro
        go_enter Try.func63, Try.ntmps63
        go_wp2_with (with_reducible refine wpList_box rfl ?_)
        intro b w1 hB1 hB2 hB3 hB4
        have HB := Lib.hid hB4
        have HBk := Lib.hid hB3
        clear hB3 hB4
        go_wp2_with fail
        refine (ContainsA_any vg gs w1 hg (HVG.out.far HB.out)).mono ?_
        rw [HA.out]
        rintro e w2 ⟨rfl, hb2⟩
        have HB2 := Lib.hid (below_next HB.out hb2)
        have HBk2 := Lib.hid (HBk.out.later hb2)
        clear hb2
        go_wp2_with ((with_reducible refine wpList_getgd ?_ HBk2.out Try.underlying46 rfl (by kernel_rfl) ?_ ?_); (exact rfl); rfl)
        refine (ValidSite_any s HS.out w2).mono ?_
        rw [HSO.out]
        rintro e w3 ⟨rfl, hb3⟩
        have HB3 := Lib.hid (below_next HB2.out hb3)
        clear hb3
        go_wp2_with fail
        refine (ValidReadings_any v l w3 hlen (HV.out.far HB3.out)).mono ?_
        rw [HRO.out]
        rintro e w4 ⟨rfl, hb4⟩
        have HB4 := Lib.hid (below_next HB3.out hb4)
        clear hb4
        go_wp2_with fail
        go_ret
        exact ⟨by rw [HK.out]; rfl, HB4.out⟩
      · have HRO := Lib.hid hro
        have HK : Hid (askF true s l = 0) := by show _ = _; unfold askF; rw [hso, hro]; rfl
        clear hso hro
        go_enter Try.func63, Try.ntmps63
        go_wp2_with (with_reducible refine wpList_box rfl ?_)
        intro b w1 hB1 hB2 hB3 hB4
        have HB := Lib.hid hB4
        have HBk := Lib.hid hB3
        clear hB3 hB4
        go_wp2_with fail
        refine (ContainsA_any vg gs w1 hg (HVG.out.far HB.out)).mono ?_
        rw [HA.out]
        rintro e w2 ⟨rfl, hb2⟩
        have HB2 := Lib.hid (below_next HB.out hb2)
        have HBk2 := Lib.hid (HBk.out.later hb2)
        clear hb2
        go_wp2_with ((with_reducible refine wpList_getgd ?_ HBk2.out Try.underlying46 rfl (by kernel_rfl) ?_ ?_); (exact rfl); rfl)
        refine (ValidSite_any s HS.out w2).mono ?_
        rw [HSO.out]
        rintro e w3 ⟨rfl, hb3⟩
        have HB3 := Lib.hid (below_next HB2.out hb3)
        clear hb3
        go_wp2_with fail
        refine (ValidReadings_any v l w3 hlen (HV.out.far HB3.out)).mono ?_
        rw [HRO.out]
        rintro e w4 ⟨rfl, hb4⟩
        have HB4 := Lib.hid (below_next HB3.out hb4)
        clear hb4
        go_wp2_with fail
        go_ret
        exact ⟨by rw [HK.out]; rfl, HB4.out⟩
end Go.Proofs.Ytonmdkhfongmhaa

namespace Go.Proofs.Ytonmdkhfongmhaa
open Go.RowKit

set_option maxRecDepth 100000 in
set_option maxHeartbeats 1600000 in
theorem l04Asked_any (a : Aq) (s : Si) (hs : s.Rng) (v : Value) (l : List Rd) (w : World) (hlen : l.length ≤ 1048576) (hv : RAt w v l) :
    Calls Try.prog 59 #[.agg #[.float .f32 a.T, .float .f32 a.S], .agg s.cells, v] w fun e w' => e = .returned (.int .i64 (askF a.ok s l)) ∧ Below w.heap.size w w' := by
  have HS := Lib.hid hs
  have HV := Lib.hid hv
  clear hs hv
  cases ha : a.ok
  · have HA : Hid (okA (fb a.T) (fb a.S) = false) := ha
    have HK : Hid (askF false s l = 1) := rfl
    clear ha
    go_enter Try.func59, Try.ntmps59
    go_wp2_with (with_reducible refine wpList_box rfl ?_)
    intro bA wA hA1 hA2 hA3 hA4
    go_wp2_with (with_reducible refine wpList_box rfl ?_)
    intro b w1 hB1 hB2 hB3 hB4
    have HG := Lib.hid (hA3.later hB4)
    have HB := Lib.hid (below_next hA4 hB4)
    clear hA3 hA4 hB3 hB4
    go_wp2_with (first | ((with_reducible refine wpList_get HG.out Try.underlying42 rfl (by kernel_rfl) ?_ ?_); rfl) | (go_at_call 68; refine (l03Aquifer_any a.T a.S _).mono ?_; rw [HA.out]; rintro e w2 ⟨rfl, hb2⟩))
    go_ret
    exact ⟨by rw [HK.out]; rfl, below_next HB.out hb2⟩
  · have HA : Hid (okA (fb a.T) (fb a.S) = true) := ha
    clear ha
    cases hso : s.ok
    · have HSO := Lib.hid hso
      have HK : Hid (askF true s l = 1) := by show _ = _; unfold askF; rw [hso]; rfl
      clear hso
      go_enter Try.func59, Try.ntmps59
      go_wp2_with (with_reducible refine wpList_box rfl ?_)
      intro bA wA hA1 hA2 hA3 hA4
      go_wp2_with (with_reducible refine wpList_box rfl ?_)
      intro b w1 hB1 hB2 hB3 hB4
      have HG := Lib.hid (hA3.later hB4)
      have HBk := Lib.hid hB3
      have HB := Lib.hid (below_next hA4 hB4)
      clear hA3 hA4 hB3 hB4
      go_wp2_with (first | ((with_reducible refine wpList_get HG.out Try.underlying42 rfl (by kernel_rfl) ?_ ?_); rfl) | (go_at_call 68; refine (l03Aquifer_any a.T a.S _).mono ?_; rw [HA.out]; rintro e w2 ⟨rfl, hb2⟩; have HBk2 := Lib.hid (HBk.out.later hb2)) | ((with_reducible refine wpList_getgd ?_ HBk2.out Try.underlying46 rfl (by kernel_rfl) ?_ ?_); (exact rfl); rfl) | (go_at_call 69; refine (l04Site_any s HS.out _).mono ?_; rw [HSO.out]; rintro e w3 ⟨rfl, hb3⟩))
      go_ret
      exact ⟨by rw [HK.out]; rfl, below_next (below_next HB.out hb2) hb3⟩
    · have HSO := Lib.hid hso
      have HK : Hid (askF true s l = if okR l = true then 0 else 1) := by show _ = _; unfold askF; rw [hso]; rfl
      clear hso
      go_enter Try.func59, Try.ntmps59
      go_wp2_with (with_reducible refine wpList_box rfl ?_)
      intro bA wA hA1 hA2 hA3 hA4
      go_wp2_with (with_reducible refine wpList_box rfl ?_)
      intro b w1 hB1 hB2 hB3 hB4
      have HG := Lib.hid (hA3.later hB4)
      have HBk := Lib.hid hB3
      have HB := Lib.hid (below_next hA4 hB4)
      clear hA3 hA4 hB3 hB4
      cases hro : okR l
      all_goals
        have HRO := Lib.hid hro
        rw [hro] at HK
        clear hro
        go_wp2_with (first | ((with_reducible refine wpList_get HG.out Try.underlying42 rfl (by kernel_rfl) ?_ ?_); rfl) | (go_at_call 68; refine (l03Aquifer_any a.T a.S _).mono ?_; rw [HA.out]; rintro e w2 ⟨rfl, hb2⟩; have HBk2 := Lib.hid (HBk.out.later hb2)) | ((with_reducible refine wpList_getgd ?_ HBk2.out Try.underlying46 rfl (by kernel_rfl) ?_ ?_); (exact rfl); rfl) | (go_at_call 69; refine (l04Site_any s HS.out _).mono ?_; rw [HSO.out]; rintro e w3 ⟨rfl, hb3⟩; have HB3 := Lib.hid (below_next (below_next HB.out hb2) hb3)) | (go_at_call 47; refine (l04Ok_any v l _ hlen (HV.out.far HB3.out)).mono ?_; rw [HRO.out]; rintro e w4 ⟨rfl, hb4⟩))
        go_ret
        exact ⟨by rw [HK.out]; rfl, below_next HB3.out hb4⟩
end Go.Proofs.Ytonmdkhfongmhaa

namespace Go.Proofs.Ytonmdkhfongmhaa
open Go.RowKit

def misR (a : Aq) (s : Si) (l : List Rd) : F × Int := if askF a.ok s l = 0 then (misF a s l, 0) else (some 0, askF a.ok s l)
/-- A float and a code are handed back. -/
def RetFI (x : F × Int) (w : World) (e : Ending) (w' : World) : Prop := ∃ q, e = .returned (.tuple #[.float .f32 q, .int .i64 x.2]) ∧ Is q x.1 ∧ Below w.heap.size w w'
theorem place_le {n : Int} (h : placeB n = true) : -100 ≤ n ∧ n ≤ 100 := by
  unfold placeB at h
  rw [Bool.and_eq_true] at h
  exact ⟨of_decide_eq_true h.1, of_decide_eq_true h.2⟩
theorem ask_parts {A : Bool} {s : Si} {l : List Rd} (h : askF A s l = 0) : A = true ∧ s.ok = true ∧ okR l = true := by
  unfold askF at h
  split at h
  · rename_i h1
    simp only [Bool.and_eq_true] at h1
    exact ⟨h1.1.1, h1.1.2, h1.2⟩
  · exact absurd h (by decide)
theorem mis_ok {a : Aq} {s : Si} {l : List Rd} (h : askF a.ok s l = 0) (hr : ∀ r ∈ l, r.Rng) : MisOk a s l := by
  obtain ⟨h1, h2, h3⟩ := ask_parts h
  unfold Si.ok wellB at h2
  simp only [Bool.and_eq_true] at h2
  unfold okR at h3
  rw [Bool.and_eq_true] at h3
  refine ⟨of_decide_eq_true h3.1, fun r hrm => ?_, hr, h2.1.1.2⟩
  obtain ⟨j, hj⟩ := List.getElem?_of_mem hrm
  have hlt : j < l.length := (List.getElem?_eq_some_iff.1 hj).1
  have ht := okN_pos h3.2 hlt
  rw [timeF_at hj] at ht
  exact ⟨h1, place_le h2.1.1.1.1, place_le h2.1.1.1.2, place_le h2.1.2, place_le h2.2, ht⟩

set_option maxRecDepth 100000 in
set_option maxHeartbeats 1600000 in
theorem specMisfitOf_any (a : Aq) (s : Si) (hs : s.Rng) (v : Value) (l : List Rd) (w : World) (hlen : l.length ≤ 1048576) (hv : RAt w v l) :
    Calls Try.prog 22 #[.agg #[.float .f32 a.T, .float .f32 a.S], .agg s.cells, v] w (RetFI (misR a s l) w) := by
  have HS := Lib.hid hs
  have HV := Lib.hid hv
  clear hs hv
  go_enter Try.func22, Try.ntmps22
  go_wp2_with (with_reducible refine wpList_box rfl ?_)
  intro bA wA hA1 hA2 hA3 hA4
  go_wp2_with (with_reducible refine wpList_box rfl ?_)
  intro b w1 hB1 hB2 hB3 hB4
  have HG := Lib.hid (hA3.later hB4)
  have HBk := Lib.hid hB3
  have HB := Lib.hid (below_next hA4 hB4)
  clear hA3 hA4 hB3 hB4
  go_wp2_with (first | ((with_reducible refine wpList_get HG.out Try.underlying42 rfl (by kernel_rfl) ?_ ?_); rfl) | ((with_reducible refine wpList_get HBk.out Try.underlying46 rfl (by kernel_rfl) ?_ ?_); rfl))
  refine (l04Asked_any a s HS.out v l w1 hlen (HV.out.far HB.out)).mono ?_
  obtain ⟨c, hc⟩ : ∃ c, askF a.ok s l = c := ⟨_, rfl⟩
  have HC := Lib.hid hc
  rw [hc]
  clear hc
  rintro e w2 ⟨rfl, hb2⟩
  have HG2 := Lib.hid (HG.out.later hb2)
  have HBk2 := Lib.hid (HBk.out.later hb2)
  have HB2 := Lib.hid (below_next HB.out hb2)
  clear hb2
  by_cases h0 : c = 0
  · subst h0
    have HR : Hid (misR a s l = (misF a s l, 0)) := by show (if _ then _ else _) = _; rw [if_pos HC.out]
    have HM := Lib.hid (mis_ok HC.out HV.out.rng)
    go_wp2_with (first | ((with_reducible refine wpList_get HG2.out Try.underlying42 rfl (by kernel_rfl) ?_ ?_); rfl) | ((with_reducible refine wpList_get HBk2.out Try.underlying46 rfl (by kernel_rfl) ?_ ?_); rfl))
    refine (l04Misfit_any a s v l w2 HM.out (HV.out.far HB2.out)).mono ?_
    rintro e w3 ⟨q, rfl, hq, hb3⟩
    have HQ := Lib.hid hq
    have HB3 := Lib.hid (below_next HB2.out hb3)
    clear hq hb3
    go_wp2_with fail
    go_ret2
    exact ⟨q, by rw [HR.out]; rfl, by rw [HR.out]; exact HQ.out, HB3.out⟩
  · have HR : Hid (misR a s l = (some 0, c)) := by show (if _ then _ else _) = _; rw [HC.out, if_neg h0]
    go_wp2_with fail
    go_ret2
    exact ⟨0, by rw [HR.out]; rfl, by rw [HR.out]; exact fb0, HB2.out⟩

set_option maxRecDepth 100000 in
set_option maxHeartbeats 1600000 in
theorem MisfitOf_any (a : Aq) (s : Si) (hs : s.Rng) (ha : a.Rng) (v : Value) (l : List Rd) (w : World) (hlen : l.length ≤ 1048576) (hv : RAt w v l) :
    Calls Try.prog 23 #[.agg #[.float .f32 a.T, .float .f32 a.S], .agg s.cells, v] w (RetFI (misR a s l) w) := by
  have HS := Lib.hid hs
  have HV := Lib.hid hv
  have HAR := Lib.hid ha
  clear hs hv ha
  go_enter Try.func23, Try.ntmps23
  go_wp2_with (with_reducible refine wpList_box rfl ?_)
  intro bA wA hA1 hA2 hA3 hA4
  go_wp2_with (with_reducible refine wpList_box rfl ?_)
  intro b w1 hB1 hB2 hB3 hB4
  have HG := Lib.hid (hA3.later hB4)
  have HBk := Lib.hid hB3
  have HB := Lib.hid (below_next hA4 hB4)
  clear hA3 hA4 hB3 hB4
  go_wp2_with (first | ((with_reducible refine wpList_get HG.out Try.underlying42 rfl (by kernel_rfl) ?_ ?_); rfl) | ((with_reducible refine wpList_get HBk.out Try.underlying46 rfl (by kernel_rfl) ?_ ?_); rfl))
  have hone : AAt (w1.alloc (.cells #[.float .f32 a.T, .float .f32 a.S] 42)) (.slice (some ⟨w1.heap.size, 0, none⟩) 1 1) [a] := ⟨_, _, rfl, fun j e he => by
    cases j with
    | zero =>
      simp at he
      subst he
      refine ⟨HAR.out, _, rfl, fun i u hu => ?_⟩
      rw [Nat.zero_mul, Nat.zero_add]
      exact (Blk.new' w1 _ _ rfl).at (by simpa [Aq.cells] using hu)
    | succ j => simp at he⟩
  refine (fitFault_any s HS.out v _ l [a] _ hlen (by simp) ((HV.out.far HB.out).far ((Below.refl _ _).alloc (Nat.le_refl _) _)) hone).mono ?_
  clear hone
  obtain ⟨c, hc⟩ : ∃ c, askF a.ok s l = c := ⟨_, rfl⟩
  have HC := Lib.hid hc
  rw [show [a].all Aq.ok = a.ok by simp, hc]
  clear hc
  rintro e w2 ⟨rfl, hb0⟩
  have hb2 := below_next ((Below.refl w1.heap.size w1).alloc (Nat.le_refl _) _) hb0
  have HG2 := Lib.hid (HG.out.later hb2)
  have HBk2 := Lib.hid (HBk.out.later hb2)
  have HB2 := Lib.hid (below_next HB.out hb2)
  clear hb2 hb0
  by_cases h0 : c = 0
  · subst h0
    have HR : Hid (misR a s l = (misF a s l, 0)) := by show (if _ then _ else _) = _; rw [if_pos HC.out]
    have HM := Lib.hid (mis_ok HC.out HV.out.rng)
    go_wp2_with (first | ((with_reducible refine wpList_get HG2.out Try.underlying42 rfl (by kernel_rfl) ?_ ?_); rfl))
    refine (misfit_any b a s v l w2 HM.out HBk2.out (HV.out.far HB2.out)).mono ?_
    rintro e w3 ⟨q, rfl, hq, hb3⟩
    have HQ := Lib.hid hq
    have HB3 := Lib.hid (below_next HB2.out hb3)
    clear hq hb3
    go_wp2_with fail
    go_ret2
    exact ⟨q, by rw [HR.out]; rfl, by rw [HR.out]; exact HQ.out, HB3.out⟩
  · have HR : Hid (misR a s l = (some 0, c)) := by show (if _ then _ else _) = _; rw [HC.out, if_neg h0]
    go_wp2_with fail
    go_ret2
    exact ⟨0, by rw [HR.out]; rfl, by rw [HR.out]; exact fb0, HB2.out⟩
end Go.Proofs.Ytonmdkhfongmhaa
