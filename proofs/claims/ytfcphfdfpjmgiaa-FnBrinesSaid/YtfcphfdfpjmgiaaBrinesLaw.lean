/- The law on brines: its walk. -/
import Derived.Test.YtfcphfdfpjmgiaaLB3
import Derived.Deep.CutRange
namespace Go.Proofs.Ytfcphfdfpjmgiaa
open Go.RowKit

theorem below_toN {w wr w' : World} (h : Below w.heap.size w wr) (h2 : Below wr.heap.size wr w') : Below w.heap.size w w' := h.trans (h2.mono h.size)
def CtN (w wL : World) (v : Value) (wr : World) : Prop := ∃ i : Nat, i ≤ 64 ∧ v = .int .i64 i ∧ Below w.heap.size w wr ∧ Below wL.heap.size wL wr
/-- The brine in the course of the steps. -/
def NwRel (x : Br) (n : N) (t : F) (most : Nat) (w : World) (B F' C : Nat) (y3 : Br) (v : Value) (wr : World) : Prop :=
  ∃ (k : Nat) (y : Br), k ≤ most ∧ v = .int .i64 k ∧ y.n = mvIt n t k ∧ Blk wr C (arrB y) 54 ∧ Blk wr B (arrB x) 54 ∧ Blk wr F' (arrB y3) 54 ∧ Below w.heap.size w wr
set_option maxRecDepth 1000000 in
set_option maxHeartbeats 32000000 in
theorem law_Brines (v v' : Value) (n n' : Nat) (w : World) (hn0 : n < 9223372036854775808) (hn0' : n' < 9223372036854775808) (hv : BytesAt w v n) (hv' : BytesAt w v' n') :
    Calls Try.prog 4 #[v, v'] w (RetB true w) := by
  have s1 : ∃ a cap, v = .slice a n cap := by obtain ⟨a, cap, e, _⟩ := hv; exact ⟨a, cap, e⟩
  have s2 : ∃ a cap, v' = .slice a n' cap := by obtain ⟨a, cap, e, _⟩ := hv'; exact ⟨a, cap, e⟩
  have HV := Lib.hid hv
  have HS1 := Lib.hid s1
  have HS2 := Lib.hid s2
  have HV' := Lib.hid hv'
  clear hv hv' s1 s2
  by_cases hlong : 3000 < n ∨ 3000 < n'
  · have hl : Hid ((decide (3000 < n) || decide (3000 < n')) = true) := by
      show _ = true
      rcases hlong with h | h
      · rw [decide_eq_true h]; rfl
      · rw [decide_eq_true h, Bool.or_true]
    clear hlong
    go_enter Try.func4, Try.ntmps4
    go_wp2_with fail
    refine (a2Long_any v v' n n' w HS1.out HS2.out hn0 hn0').mono ?_
    rw [hl.out]
    rintro e w1 ⟨rfl, rfl⟩
    go_wp2_with fail
    go_ret
    exact ⟨rfl, Below.refl _ _⟩
  have hl : Hid ((decide (3000 < n) || decide (3000 < n')) = false) := by
    show _ = false
    rw [decide_eq_false (by omega), decide_eq_false (by omega)]; rfl
  have hn : n ≤ 4096 := by omega
  have hn' : n' ≤ 4096 := by omega
  clear hlong
  go_enter Try.func4, Try.ntmps4
  go_wp2_with fail
  refine (a2Long_any v v' n n' w HS1.out HS2.out hn0 hn0').mono ?_
  rw [hl.out]
  rintro e w1 ⟨rfl, rfl⟩
  go_wp2_with fail
  refine (A2Brine_any v n _ hn HV.out).mono ?_
  rintro e x1 ⟨x, rfl, hd, hb⟩
  have HB := Lib.hid hb
  have HD := Lib.hid hd
  have hr := hd.gr.rng
  have HX := Lib.hid hd.gr.fxr
  have HSN := Lib.hid hd.gr.sane
  have HST := Lib.hid (brn_start hd)
  clear hb hd
  go_wp2_with (with_reducible refine wpList_new newB ?_)
  intro B x2 q1 q2 q3 q4
  have HBn := Lib.hid (below_toN HB.out q4)
  have hwB : w.heap.size ≤ B := by have := HB.out.size; omega
  clear q4
  go_wp2_with ((with_reducible refine wpList_putB (x := x) q3 ?_ ?_ ?_); rfl; rfl)
  intro x3 s3 b3 k3
  have HB := Lib.hid (below_grown HBn.out k3 HBn.out.size hwB)
  have HBb := Lib.hid b3
  clear q3 k3 b3
  rcases HST.out with hs0 | ⟨t, hs0, T, R, hcr, hcp⟩
  · as_aux_lemma =>
    have HS0 := Lib.hid hs0
    clear hs0 HST
    have ld := HBb.out
    go_wp2_with ((with_reducible refine wpList_getB ld ?_ ?_); rfl)
    refine (SafeStep_any x _ hr HX.out).mono ?_
    rw [HS0.out]
    rintro e yv ⟨r1, rfl, hr1, hb⟩
    have HB := Lib.hid (below_toN HB.out hb)
    have HBb := Lib.hid (HBb.out.later hb)
    have HR1 := Lib.hid hr1
    clear hr1
    clear ld hb
    have ld := HBb.out
    go_wp2_with ((with_reducible refine wpList_getB ld ?_ ?_); rfl)
    refine (specSafeStep_any x _ hr HX.out).mono ?_
    rw [HS0.out]
    rintro e yv ⟨r2, rfl, hr2, hb⟩
    have HB := Lib.hid (below_toN HB.out hb)
    have HBb := Lib.hid (HBb.out.later hb)
    have HR2 := Lib.hid hr2
    clear hr2
    clear ld hb
    go_wp2_with fail
    refine (SameNumber_eq r1 r2 _ (HR1.out.out.trans HR2.out.out.symm)).mono ?_
    rintro e w4 ⟨rfl, rfl⟩
    have l1 := HBb.out
    go_wp2_with ((with_reducible refine wpList_getBgd ?_ l1 ?_ ?_); (exact rfl); rfl)
    refine (ValidBrine_any x _ hr HX.out).mono ?_
    rw [HD.out.ok]
    rintro e w5 ⟨rfl, hb⟩
    have HB := Lib.hid (below_toN HB.out hb)
    have HBb := Lib.hid (HBb.out.later hb)
    clear hb l1
    have l1 := HBb.out
    go_wp2_with ((with_reducible refine wpList_getBgd ?_ l1 ?_ ?_); (exact rfl); rfl)
    refine (iSameBrine_eq x _).mono ?_
    rintro e w6 ⟨rfl, hb⟩
    have HB := Lib.hid (below_toN HB.out hb)
    have HBb := Lib.hid (HBb.out.later hb)
    clear hb l1
    go_wp2_with fail
    go_ret
    exact ⟨rfl, HB.out⟩
  · as_aux_lemma =>
    have HS0 := Lib.hid hs0
    have HCR := Lib.hid hcr
    have HCP := Lib.hid hcp
    clear hs0 HST hcr hcp
    have ld := HBb.out
    go_wp2_with ((with_reducible refine wpList_getB ld ?_ ?_); rfl)
    refine (SafeStep_any x _ hr HX.out).mono ?_
    rw [HS0.out]
    rintro e yv ⟨r1, rfl, hr1, hb⟩
    have HB := Lib.hid (below_toN HB.out hb)
    have HBb := Lib.hid (HBb.out.later hb)
    have HR1 := Lib.hid hr1
    clear hr1
    clear ld hb
    have ld := HBb.out
    go_wp2_with ((with_reducible refine wpList_getB ld ?_ ?_); rfl)
    refine (specSafeStep_any x _ hr HX.out).mono ?_
    rw [HS0.out]
    rintro e yv ⟨r2, rfl, hr2, hb⟩
    have HB := Lib.hid (below_toN HB.out hb)
    have HBb := Lib.hid (HBb.out.later hb)
    have HR2 := Lib.hid hr2
    clear hr2
    clear ld hb
    go_wp2_with fail
    refine (SameNumber_eq r1 r2 _ (HR1.out.out.trans HR2.out.out.symm)).mono ?_
    rintro e w4 ⟨rfl, rfl⟩
    have l1 := HBb.out
    go_wp2_with ((with_reducible refine wpList_getBgd ?_ l1 ?_ ?_); (exact rfl); rfl)
    refine (ValidBrine_any x _ hr HX.out).mono ?_
    rw [HD.out.ok]
    rintro e w5 ⟨rfl, hb⟩
    have HB := Lib.hid (below_toN HB.out hb)
    have HBb := Lib.hid (HBb.out.later hb)
    clear hb l1
    have l1 := HBb.out
    go_wp2_with ((with_reducible refine wpList_getBgd ?_ l1 ?_ ?_); (exact rfl); rfl)
    refine (iSameBrine_eq x _).mono ?_
    rintro e w6 ⟨rfl, hb⟩
    have HB := Lib.hid (below_toN HB.out hb)
    have HBb := Lib.hid (HBb.out.later hb)
    clear hb l1
    have HT2 : Hid (fb r2 = t) := HR2.out.out
    have HSM : Hid (isSmR x.n (fb r2) = (true, 0)) := by show _ = _; rw [HT2.out]; exact small_it HCR.out
    have HST1 : Hid (stepR x.n (fb r2) = (mvIt x.n t 1, 0)) := by show _ = _; rw [HT2.out]; exact step_it (k := 0) HCR.out HCP.out (by omega)
    have ld := HBb.out
    go_wp2_with ((with_reducible refine wpList_getB ld ?_ ?_); rfl)
    refine (IsSmallStep_any x r2 _ hr HX.out).mono ?_
    rw [HSM.out]
    rintro e yv ⟨rfl, hb⟩
    have HB := Lib.hid (below_toN HB.out hb)
    have HBb := Lib.hid (HBb.out.later hb)
    clear ld hb
    have ld := HBb.out
    go_wp2_with ((with_reducible refine wpList_getB ld ?_ ?_); rfl)
    refine (MoveSalt_any x r2 _ hr HX.out).mono ?_
    rw [HST1.out]
    rintro e ya ⟨m1, rfl, hy, hb⟩
    have HB := Lib.hid (below_toN HB.out hb)
    have HBb := Lib.hid (HBb.out.later hb)
    have HYHM := Lib.hid hy
    clear hb hy ld
    go_wp2_with (with_reducible refine wpList_new newB ?_)
    intro B12 yb q1 q2 q3 q4
    have HBn := Lib.hid (below_toN HB.out q4)
    have hwB12 : w.heap.size ≤ B12 := by have := HB.out.size; omega
    have hneHBb : B < B12 := by have := HBb.out.lt; omega
    have HBb := Lib.hid (HBb.out.later q4)
    clear q4
    go_wp2_with ((with_reducible refine wpList_putB (x := m1) q3 ?_ ?_ ?_); rfl; rfl)
    intro yc sc bc kc
    have HB := Lib.hid (below_grown HBn.out kc HBn.out.size hwB12)
    have HBb := Lib.hid (HBb.out.grown kc (by omega))
    have HM := Lib.hid bc
    clear q3 bc kc sc hneHBb
    have ld := HBb.out
    go_wp2_with ((with_reducible refine wpList_getB ld ?_ ?_); rfl)
    refine (specMoveSalt_any x r2 _ hr HX.out).mono ?_
    rw [HST1.out]
    rintro e ya ⟨m2, rfl, hy, hb⟩
    have HB := Lib.hid (below_toN HB.out hb)
    have HBb := Lib.hid (HBb.out.later hb)
    have HM := Lib.hid (HM.out.later hb)
    have HYHS := Lib.hid hy
    clear hb hy ld
    go_wp2_with (with_reducible refine wpList_new newB ?_)
    intro B14 yb q1 q2 q3 q4
    have HBn := Lib.hid (below_toN HB.out q4)
    have hwB14 : w.heap.size ≤ B14 := by have := HB.out.size; omega
    have hneHBb : B < B14 := by have := HBb.out.lt; omega
    have hneHM : B12 < B14 := by have := HM.out.lt; omega
    have HBb := Lib.hid (HBb.out.later q4)
    have HM := Lib.hid (HM.out.later q4)
    clear q4
    go_wp2_with ((with_reducible refine wpList_putB (x := m2) q3 ?_ ?_ ?_); rfl; rfl)
    intro yc sc bc kc
    have HB := Lib.hid (below_grown HBn.out kc HBn.out.size hwB14)
    have HBb := Lib.hid (HBb.out.grown kc (by omega))
    have HM := Lib.hid (HM.out.grown kc (by omega))
    have HS := Lib.hid bc
    clear q3 bc kc sc hneHBb hneHM
    have l1 := HM.out
    have l2 := HS.out
    go_wp2_with (first | ((with_reducible refine wpList_getBgd ?_ l1 ?_ ?_); (exact rfl); rfl) | ((with_reducible refine wpList_getBgd ?_ l2 ?_ ?_); (exact rfl); rfl))
    refine (SameBrine_eq m1 m2 _ (HYHM.out.trans HYHS.out.symm)).mono ?_
    rintro e w7 ⟨rfl, hb⟩
    have HB := Lib.hid (below_toN HB.out hb)
    have HBb := Lib.hid (HBb.out.later hb)
    have HM := Lib.hid (HM.out.later hb)
    have HS := Lib.hid (HS.out.later hb)
    clear hb l1 l2
    have hrm := rng_n (y := m2) (x := x) (by rw [HYHS.out]; rfl) hr HX.out
    have HRM := Lib.hid hrm
    have HOM : Hid (okB m2.n = true) := by show _ = _; rw [HYHS.out]; exact it_ok HCR.out HCP.out (by omega)
    clear hrm
    have l2 := HS.out
    go_wp2_with ((with_reducible refine wpList_getBgd ?_ l2 ?_ ?_); (exact rfl); rfl)
    refine (ValidBrine_any m2 _ HRM.out.1 HRM.out.2).mono ?_
    rw [HOM.out]
    rintro e w8 ⟨rfl, hb⟩
    have HB := Lib.hid (below_toN HB.out hb)
    have HBb := Lib.hid (HBb.out.later hb)
    have HM := Lib.hid (HM.out.later hb)
    have HS := Lib.hid (HS.out.later hb)
    clear hb l2
    have HBL := HB
    have HBbL := HBb
    have HSL := HS
    clear HB HBb HM HS HYHM
    go_wp2_with fail
    go_loopw [16] (fun v16 wr => CtN w w8 v16 wr) (fun v16 _ => 64 - (intOf v16).toNat)
    case atStart => exact ⟨0, by omega, rfl, HBL.out, Below.refl _ _⟩
    case round =>
      as_aux_lemma =>
      obtain ⟨i, hi, rfl, hB, hB2⟩ := hrel
      have HB := Lib.hid hB
      have HB2 := Lib.hid hB2
      have HBb := Lib.hid (HBbL.out.below hB2 HBbL.out.lt)
      clear hB
      by_cases hil : i < 64
      · have i1 : (i : Int) < 64 := by omega
        have HS := Lib.hid (HSL.out.below hB2 HSL.out.lt)
        have l1 := (BAt.of_blk HBb.out).s (k := i) hil
        have l2 := (BAt.of_blk HS.out).s (k := i) hil
        have l0 := (BAt.of_blk HBb.out).g.fixed
        simp only [Nat.zero_add] at l0
        have q0 := fun u => ext_cell wr u l0
        have q1 := fun u => ext_cell wr u l1
        have q2 := fun u => ext_cell wr u l2
        obtain ⟨r0, r1'⟩ := shr_range i HSN.out.f0 HSN.out.f1
        obtain ⟨e1, e2⟩ := model_salt HCR.out HCP.out HYHS.out hil
        have HE2 := Lib.hid e2
        have hgt := order_gt
        have heq := order_eq
        clear hB2 l0 l1 l2 e2
        by_cases hf : fixB x.gr.fixed i = true
        · have hf2 : (x.gr.fixed / 2 ^ i % 2 == 1) = true := by have := of_decide_eq_true hf; rw [this]; rfl
          have HEE := Lib.hid (HE2.out hf)
          clear hf
          rcases e1 with g1 | ⟨g1, g2⟩
          all_goals
            go_wp2_with fail
            refine wp_soft (SV (.bool true)) (by kernel_rfl) (by kernel_rfl) ?_
            repeat (first | (refine soft_step (fun K hK => ?_); go_simp; (try go_bits); refine hK _ ?_; clear hK K) | (refine soft_step (fun K hK => ?_); go_simp; refine ⟨_, _, ⟨rfl, rfl⟩, fun z => (SameNumber_eq _ _ _ HEE.out).mono ?_, ?_⟩; (rintro e w1 ⟨he, rfl⟩; exact ⟨_, he, rfl, Below.refl _ _⟩); rintro v rfl; refine hK _ ?_; clear hK K))
            refine soft_nil ?_
            rintro z2 hw
            have hb := hw.below
            have HB := Lib.hid (below_toN HB.out hb)
            have HB2 := Lib.hid (below_toN HB2.out hb)
            clear hb hw
            go_wp2_with fail
            go_roundw
            case rel => exact ⟨i + 1, by omega, by go_num, HB.out, HB2.out⟩
            case measure => simp [intOf]; omega
        · have hfx : fixB x.gr.fixed i = false := by cases h : fixB x.gr.fixed i; rfl; exact absurd h hf
          have hf2 : (x.gr.fixed / 2 ^ i % 2 == 1) = false := by have h0 := of_decide_eq_false hfx; generalize x.gr.fixed / 2 ^ i % 2 = z at *; simpa using h0
          clear hf hfx
          rcases e1 with g1 | ⟨g1, g2⟩
          all_goals
            go_wp2_with fail
            refine wp_soft (SV (.bool true)) (by kernel_rfl) (by kernel_rfl) ?_
            repeat (refine soft_step (fun K hK => ?_); go_simp; (try go_bits); refine hK _ ?_; clear hK K)
            refine soft_nil ?_
            rintro z2 hw
            have hb := hw.below
            have HB := Lib.hid (below_toN HB.out hb)
            have HB2 := Lib.hid (below_toN HB2.out hb)
            clear hb hw
            go_wp2_with fail
            go_roundw
            case rel => exact ⟨i + 1, by omega, by go_num, HB.out, HB2.out⟩
            case measure => simp [intOf]; omega
      · have i1 : ¬ (i : Int) < 64 := by omega
        clear hB2 HSL HB2
        go_wp2_with fail
        refine (a2At_any v' n' 0 6 _ (by omega) (by omega) (HV'.out.far HB.out)).mono ?_
        rintro e u1 ⟨z, rfl, hz, hb⟩
        have HB := Lib.hid (below_toN HB.out hb)
        have HBb := Lib.hid (HBb.out.later hb)
        have HTM : Hid (timesR x.n (fb r2) (z : Int) = (mvIt x.n t z, 0)) := by show _ = _; rw [HT2.out]; exact times_it HCR.out HCP.out (by omega)
        clear hb
        have ld := HBb.out
        go_wp2_with ((with_reducible refine wpList_getB ld ?_ ?_); rfl)
        refine (MoveTimes_any x r2 z _ hr HX.out).mono ?_
        rw [HTM.out]
        rintro e ya ⟨m3, rfl, hy, hb⟩
        have HB := Lib.hid (below_toN HB.out hb)
        have HBb := Lib.hid (HBb.out.later hb)
        have HYHF := Lib.hid hy
        clear hb hy ld
        go_wp2_with (with_reducible refine wpList_new newB ?_)
        intro B18 yb q1 q2 q3 q4
        have HBn := Lib.hid (below_toN HB.out q4)
        have hwB18 : w.heap.size ≤ B18 := by have := HB.out.size; omega
        have hneHBb : B < B18 := by have := HBb.out.lt; omega
        have HBb := Lib.hid (HBb.out.later q4)
        clear q4
        go_wp2_with ((with_reducible refine wpList_putB (x := m3) q3 ?_ ?_ ?_); rfl; rfl)
        intro yc sc bc kc
        have HB := Lib.hid (below_grown HBn.out kc HBn.out.size hwB18)
        have HBb := Lib.hid (HBb.out.grown kc (by omega))
        have HF := Lib.hid bc
        clear q3 bc kc sc hneHBb
        have ld := HBb.out
        go_wp2_with (first | (with_reducible refine wpList_new newB ?_) | ((with_reducible refine wpList_getB ld ?_ ?_); rfl))
        intro B20 yb q1 q2 q3 q4
        have HBn := Lib.hid (below_toN HB.out q4)
        have hwB20 : w.heap.size ≤ B20 := by have := HB.out.size; omega
        have hneHBb : B < B20 := by have := HBb.out.lt; omega
        have hneHF : B18 < B20 := by have := HF.out.lt; omega
        have HBb := Lib.hid (HBb.out.later q4)
        have HF := Lib.hid (HF.out.later q4)
        clear q4 ld
        go_wp2_with ((with_reducible refine wpList_putB (x := x) q3 ?_ ?_ ?_); rfl; rfl)
        intro yc sc bc kc
        have HB := Lib.hid (below_grown HBn.out kc HBn.out.size hwB20)
        have HBb := Lib.hid (HBb.out.grown kc (by omega))
        have HF := Lib.hid (HF.out.grown kc (by omega))
        have HC := Lib.hid bc
        have HFB : B18 ≠ B20 := by omega
        have HBB : B ≠ B20 := by omega
        clear q3 bc kc sc hneHBb hneHF
        go_wp2_with fail
        go_loopw [21] (fun v21 wr => NwRel x x.n t z w B B18 B20 m3 v21 wr) (fun v21 _ => z - (intOf v21).toNat)
        case atStart => exact ⟨0, x, by omega, rfl, rfl, HC.out, HBb.out, HF.out, HB.out⟩
        case round =>
          as_aux_lemma =>
          obtain ⟨k, y, hk, rfl, hy, hc, hbb, hf, hB⟩ := hrel
          have HC := Lib.hid hc
          have HBb := Lib.hid hbb
          have HF := Lib.hid hf
          have HB := Lib.hid hB
          have HY := Lib.hid hy
          clear hy hc hbb hf hB
          by_cases hkl : k < z
          · have k1 : (k : Int) < (z : Int) := by omega
            have hry := rng_n (y := y) (x := x) (by rw [HY.out]; exact (mvIt_same x.n t k).1) hr HX.out
            have HRY := Lib.hid hry
            have HSK : Hid (stepR y.n (fb r2) = (mvIt x.n t (k + 1), 0)) := by show _ = _; rw [HT2.out, HY.out]; exact step_it HCR.out HCP.out (by omega)
            clear hry
            have ld := HC.out
            go_wp2_with ((with_reducible refine wpList_getB ld ?_ ?_); rfl)
            refine (MoveSalt_any y r2 _ HRY.out.1 HRY.out.2).mono ?_
            rw [HSK.out]
            rintro e ya ⟨m4, rfl, hy, hb⟩
            have HB := Lib.hid (below_toN HB.out hb)
            have HBb := Lib.hid (HBb.out.later hb)
            have HF := Lib.hid (HF.out.later hb)
            have HC := Lib.hid (HC.out.later hb)
            have HYHA := Lib.hid hy
            clear hb hy ld
            go_wp2_with (with_reducible refine wpList_new newB ?_)
            intro B22 yb q1 q2 q3 q4
            have HBn := Lib.hid (below_toN HB.out q4)
            have hwB22 : w.heap.size ≤ B22 := by have := HB.out.size; omega
            have hneHBb : B < B22 := by have := HBb.out.lt; omega
            have hneHF : B18 < B22 := by have := HF.out.lt; omega
            have hneHC : B20 < B22 := by have := HC.out.lt; omega
            have HBb := Lib.hid (HBb.out.later q4)
            have HF := Lib.hid (HF.out.later q4)
            have HC := Lib.hid (HC.out.later q4)
            clear q4
            go_wp2_with ((with_reducible refine wpList_putB (x := m4) q3 ?_ ?_ ?_); rfl; rfl)
            intro yc sc bc kc
            have HB := Lib.hid (below_grown HBn.out kc HBn.out.size hwB22)
            have HBb := Lib.hid (HBb.out.grown kc (by omega))
            have HF := Lib.hid (HF.out.grown kc (by omega))
            have HC := Lib.hid (HC.out.grown kc (by omega))
            have HA := Lib.hid bc
            clear q3 bc kc sc hneHBb hneHF hneHC
            have ld := HA.out
            go_wp2_with (first | ((with_reducible refine wpList_getB ld ?_ ?_); rfl) | ((with_reducible refine wpList_putB (x := m4) HC.out ?_ ?_ ?_); rfl; rfl))
            intro u9 s9 b9 k9
            have HB := Lib.hid (below_grown HB.out k9 HB.out.size (by assumption))
            have HBb := Lib.hid (HBb.out.grown k9 HBB)
            have HF := Lib.hid (HF.out.grown k9 HFB)
            have HC := Lib.hid b9
            clear b9 k9 ld
            go_wp2_with fail
            go_roundw
            case rel => exact ⟨k + 1, m4, by omega, by go_num, HYHA.out, HC.out, HBb.out, HF.out, HB.out⟩
            case measure => simp [intOf]; omega
          · have k1 : ¬ (k : Int) < (z : Int) := by omega
            obtain rfl : k = z := by omega
            obtain ⟨bm, hbm, hmo, hbit⟩ := most_front HD.out
            have HMO := Lib.hid hmo
            obtain ⟨fw, hfw⟩ : ∃ fw, bitsL (frontL x.n (fb (x.s bm))) = fw := ⟨_, rfl⟩
            rw [hfw] at hbit
            have HFW := Lib.hid hfw
            have HBT := Lib.hid hbit
            clear hmo hfw hbit
            have ld := HBb.out
            go_wp2_with ((with_reducible refine wpList_getB ld ?_ ?_); rfl)
            refine (SaltiestCell_any x _ hr HX.out HD.out.sfits).mono ?_
            rw [HMO.out]
            rintro e yv ⟨rm, rfl, hrm, hb⟩
            have HB := Lib.hid (below_toN HB.out hb)
            have HBb := Lib.hid (HBb.out.later hb)
            have HF := Lib.hid (HF.out.later hb)
            have HC := Lib.hid (HC.out.later hb)
            have HRM2 : Hid (fb rm = fb (x.s bm)) := hrm.out
            clear hrm
            clear ld hb
            have HFQ : Hid (bitsL (frontL x.n (fb rm)) = fw) := by show _ = _; rw [HRM2.out]; exact HFW.out
            have ld := HBb.out
            go_wp2_with ((with_reducible refine wpList_getB ld ?_ ?_); rfl)
            refine (FrontOf_any x rm _ hr HX.out HD.out.ok).mono ?_
            rw [HFQ.out]
            rintro e yv ⟨rfl, hb⟩
            have HB := Lib.hid (below_toN HB.out hb)
            have HBb := Lib.hid (HBb.out.later hb)
            have HF := Lib.hid (HF.out.later hb)
            have HC := Lib.hid (HC.out.later hb)
            clear ld hb
            have l1 := HF.out
            have l2 := HC.out
            go_wp2_with (first | ((with_reducible refine wpList_getBgd ?_ l1 ?_ ?_); (exact rfl); rfl) | ((with_reducible refine wpList_getBgd ?_ l2 ?_ ?_); (exact rfl); rfl))
            refine (SameBrine_eq m3 y _ (HYHF.out.trans HY.out.symm)).mono ?_
            rintro e u5 ⟨rfl, hb⟩
            have HB := Lib.hid (below_toN HB.out hb)
            have HBb := Lib.hid (HBb.out.later hb)
            clear hb l1 l2
            have l3 := (BAt.of_blk HBb.out).s (k := bm) hbm
            have hbt := HBT.out
            have b1 : (bm : Int) < 64 := by omega
            go_wp2_with fail
            refine (SameNumber_eq (x.s bm) rm _ HRM2.out.symm).mono ?_
            rintro e u6 ⟨rfl, rfl⟩
            go_wp2_with fail
            go_ret
            exact ⟨rfl, HB.out⟩
end Go.Proofs.Ytfcphfdfpjmgiaa
