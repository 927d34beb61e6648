/- The law on salt that is kept: its walk. -/
import Derived.Test.YtfcphfdfpjmgiaaLB4
import Derived.Test.YtfcphfdfpjmgiaaLB4
import Derived.Deep.CutRange
namespace Go.Proofs.Ytfcphfdfpjmgiaa
open Go.RowKit

theorem below_toK {w wr w' : World} (h : Below w.heap.size w wr) (h2 : Below wr.heap.size wr w') : Below w.heap.size w w' := h.trans (h2.mono h.size)
/-- What is gained so far, and the scale. -/
def SkRel (n : N) (t z : F) (w wL : World) (v16 v17 v18 : Value) (wr : World) : Prop :=
  ∃ (k g s : Nat), k ≤ 64 ∧ v16 = .float .f32 g ∧ v17 = .float .f32 s ∧ v18 = .int .i64 k ∧ Is g (accF (gT n t) (some 0) (freeL n.g k)) ∧ Is s (accF (sT n t) z (freeL n.g k)) ∧ Below w.heap.size w wr ∧ Below wL.heap.size wL wr
/-- The brine whose flows are struck out. -/
def StRel (x : Br) (w : World) (B C : Nat) (v : Value) (wr : World) : Prop :=
  ∃ (k : Nat) (h' g' : Nat → Nat), k ≤ 64 ∧ v = .int .i64 k ∧ (∀ j, j < k → h' j = 0) ∧ (∀ j, j < k → g' j = 0) ∧ Blk wr C (arrB (withHG x h' g')) 54 ∧ Blk wr B (arrB x) 54 ∧ Below w.heap.size w wr
set_option maxRecDepth 1000000 in
set_option maxHeartbeats 32000000 in
theorem law_SaltKept (v v' : Value) (n n' : Nat) (w : World) (hn0 : n < 9223372036854775808) (hn0' : n' < 9223372036854775808) (hv : BytesAt w v n) (hv' : BytesAt w v' n') :
    Calls Try.prog 5 #[v, v'] w (RetB true w) := by
  have s1 : ∃ a cap, v = .slice a n cap := by obtain ⟨a, cap, e, _⟩ := hv; exact ⟨a, cap, e⟩
  have s2 : ∃ a cap, v' = .slice a n' cap := by obtain ⟨a, cap, e, _⟩ := hv'; exact ⟨a, cap, e⟩
  have HV := Lib.hid hv
  have HS1 := Lib.hid s1
  have HS2 := Lib.hid s2
  have HV' := Lib.hid hv'
  clear hv hv' s1 s2
  by_cases hlong : 3000 < n ∨ 3000 < n'
  · have hl : Hid ((decide (3000 < n) || decide (3000 < n')) = true) := by
      show _ = true
      rcases hlong with h | h
      · rw [decide_eq_true h]; rfl
      · rw [decide_eq_true h, Bool.or_true]
    clear hlong
    go_enter Try.func5, Try.ntmps5
    go_wp2_with fail
    refine (a2Long_any v v' n n' w HS1.out HS2.out hn0 hn0').mono ?_
    rw [hl.out]
    rintro e w1 ⟨rfl, rfl⟩
    go_wp2_with fail
    go_ret
    exact ⟨rfl, Below.refl _ _⟩
  have hl : Hid ((decide (3000 < n) || decide (3000 < n')) = false) := by
    show _ = false
    rw [decide_eq_false (by omega), decide_eq_false (by omega)]; rfl
  have hn : n ≤ 4096 := by omega
  have hn' : n' ≤ 4096 := by omega
  clear hlong
  go_enter Try.func5, Try.ntmps5
  go_wp2_with fail
  refine (a2Long_any v v' n n' w HS1.out HS2.out hn0 hn0').mono ?_
  rw [hl.out]
  rintro e w1 ⟨rfl, rfl⟩
  go_wp2_with fail
  refine (A2Brine_any v n _ hn HV.out).mono ?_
  rintro e x1 ⟨x, rfl, hd, hb⟩
  have HB := Lib.hid hb
  have HD := Lib.hid hd
  have hr := hd.gr.rng
  have HX := Lib.hid hd.gr.fxr
  have HSN := Lib.hid hd.gr.sane
  have HST := Lib.hid (brn_start hd)
  clear hb hd
  go_wp2_with (with_reducible refine wpList_new newB ?_)
  intro B x2 q1 q2 q3 q4
  have HBn := Lib.hid (below_toK HB.out q4)
  have hwB : w.heap.size ≤ B := by have := HB.out.size; omega
  clear q4
  go_wp2_with ((with_reducible refine wpList_putB (x := x) q3 ?_ ?_ ?_); rfl; rfl)
  intro x3 s3 b3 k3
  have HB := Lib.hid (below_grown HBn.out k3 HBn.out.size hwB)
  have HBb := Lib.hid b3
  clear q3 k3 b3
  rcases HST.out with hs0 | ⟨t, hs0, T, R, hcr, hcp⟩
  · as_aux_lemma =>
    have HS0 := Lib.hid hs0
    clear hs0 HST
    have ld := HBb.out
    go_wp2_with ((with_reducible refine wpList_getB ld ?_ ?_); rfl)
    refine (specSafeStep_any x _ hr HX.out).mono ?_
    rw [HS0.out]
    rintro e yv ⟨r2, rfl, hr2, hb⟩
    have HB := Lib.hid (below_toK HB.out hb)
    have HBb := Lib.hid (HBb.out.later hb)
    have HR2 := Lib.hid hr2
    clear hr2
    clear ld hb
    go_wp2_with fail
    go_ret
    exact ⟨rfl, HB.out⟩
  · as_aux_lemma =>
    have HS0 := Lib.hid hs0
    have HCR := Lib.hid hcr
    have HCP := Lib.hid hcp
    clear hs0 HST hcr hcp
    have ld := HBb.out
    go_wp2_with ((with_reducible refine wpList_getB ld ?_ ?_); rfl)
    refine (specSafeStep_any x _ hr HX.out).mono ?_
    rw [HS0.out]
    rintro e yv ⟨r2, rfl, hr2, hb⟩
    have HB := Lib.hid (below_toK HB.out hb)
    have HBb := Lib.hid (HBb.out.later hb)
    have HR2 := Lib.hid hr2
    clear hr2
    clear ld hb
    have HT2 : Hid (fb r2 = t) := HR2.out.out
    have HST1 : Hid (stepR x.n (fb r2) = (mvIt x.n t 1, 0)) := by show _ = _; rw [HT2.out]; exact step_it (k := 0) HCR.out HCP.out (by omega)
    have ld := HBb.out
    go_wp2_with ((with_reducible refine wpList_getB ld ?_ ?_); rfl)
    refine (MoveSalt_any x r2 _ hr HX.out).mono ?_
    rw [HST1.out]
    rintro e ya ⟨m1, rfl, hy, hb⟩
    have HB := Lib.hid (below_toK HB.out hb)
    have HBb := Lib.hid (HBb.out.later hb)
    have HYHM := Lib.hid hy
    clear hb hy ld
    go_wp2_with (with_reducible refine wpList_new newB ?_)
    intro B8 yb q1 q2 q3 q4
    have HBn := Lib.hid (below_toK HB.out q4)
    have hwB8 : w.heap.size ≤ B8 := by have := HB.out.size; omega
    have hneHBb : B < B8 := by have := HBb.out.lt; omega
    have HBb := Lib.hid (HBb.out.later q4)
    clear q4
    go_wp2_with ((with_reducible refine wpList_putB (x := m1) q3 ?_ ?_ ?_); rfl; rfl)
    intro yc sc bc kc
    have HB := Lib.hid (below_grown HBn.out kc HBn.out.size hwB8)
    have HBb := Lib.hid (HBb.out.grown kc (by omega))
    have HM := Lib.hid bc
    clear q3 bc kc sc hneHBb
    have ld := HBb.out
    go_wp2_with ((with_reducible refine wpList_getB ld ?_ ?_); rfl)
    refine (specMoveSalt_any x r2 _ hr HX.out).mono ?_
    rw [HST1.out]
    rintro e ya ⟨m2, rfl, hy, hb⟩
    have HB := Lib.hid (below_toK HB.out hb)
    have HBb := Lib.hid (HBb.out.later hb)
    have HM := Lib.hid (HM.out.later hb)
    have HYHS := Lib.hid hy
    clear hb hy ld
    go_wp2_with (with_reducible refine wpList_new newB ?_)
    intro B10 yb q1 q2 q3 q4
    have HBn := Lib.hid (below_toK HB.out q4)
    have hwB10 : w.heap.size ≤ B10 := by have := HB.out.size; omega
    have hneHBb : B < B10 := by have := HBb.out.lt; omega
    have hneHM : B8 < B10 := by have := HM.out.lt; omega
    have HBb := Lib.hid (HBb.out.later q4)
    have HM := Lib.hid (HM.out.later q4)
    clear q4
    go_wp2_with ((with_reducible refine wpList_putB (x := m2) q3 ?_ ?_ ?_); rfl; rfl)
    intro yc sc bc kc
    have HB := Lib.hid (below_grown HBn.out kc HBn.out.size hwB10)
    have HBb := Lib.hid (HBb.out.grown kc (by omega))
    have HM := Lib.hid (HM.out.grown kc (by omega))
    have HS := Lib.hid bc
    clear q3 bc kc sc hneHBb hneHM
    have l1 := HM.out
    have l2 := HS.out
    go_wp2_with (first | ((with_reducible refine wpList_getBgd ?_ l1 ?_ ?_); (exact rfl); rfl) | ((with_reducible refine wpList_getBgd ?_ l2 ?_ ?_); (exact rfl); rfl))
    refine (SameBrine_eq m1 m2 _ (HYHM.out.trans HYHS.out.symm)).mono ?_
    rintro e w7 ⟨rfl, hb⟩
    have HB := Lib.hid (below_toK HB.out hb)
    have HBb := Lib.hid (HBb.out.later hb)
    have HM := Lib.hid (HM.out.later hb)
    have HS := Lib.hid (HS.out.later hb)
    clear hb l1 l2
    have hrm := rng_n (y := m2) (x := x) (by rw [HYHS.out]; rfl) hr HX.out
    have HRM := Lib.hid hrm
    have hkp := kept HCR.out HCP.out
    obtain ⟨qA, qB, qE, qV, vB, vA, vE, vV, e1, e2⟩ := hkp
    have HK := Lib.hid (show RV (fsub (fsub (sumF (saltD (mvIt x.n t 1)) (cellsM x.n.g)) (sumF (saltD x.n) (cellsM x.n.g))) (accF (gT x.n t) (some 0) (freeL x.n.g 64))) qE ∧ RV (fadd (fmul (accF (sT x.n t) (fadd (sumF (saltD x.n) (cellsM x.n.g)) (sumF (saltD (mvIt x.n t 1)) (cellsM x.n.g))) (freeL x.n.g 64)) (some 953267991)) (some 953267991)) qV ∧ -qV ≤ qE ∧ qE ≤ qV ∧ qV ≤ 1000000000000000000 from ⟨vE, vV, e1, e2⟩)
    obtain ⟨FB, hFB⟩ : ∃ F, sumF (saltD x.n) (cellsM x.n.g) = F := ⟨_, rfl⟩
    obtain ⟨FA, hFA⟩ : ∃ F, sumF (saltD (mvIt x.n t 1)) (cellsM x.n.g) = F := ⟨_, rfl⟩
    have HSB : Hid (saltR x.n = (FB, 0)) := by
      show _ = _
      unfold saltR toldR
      rw [if_pos HD.out.ok, vB.fin, hFB]; rfl
    have HSA : Hid (saltR m2.n = (FA, 0)) := by
      show _ = _
      rw [HYHS.out]
      unfold saltR toldR
      rw [if_pos (it_ok HCR.out HCP.out (by omega))]
      show (if fin (sumF (saltD (mvIt x.n t 1)) (cellsM x.n.g)) then sumF (saltD (mvIt x.n t 1)) (cellsM x.n.g) else some 0, if fin (sumF (saltD (mvIt x.n t 1)) (cellsM x.n.g)) then (0 : Int) else 4) = _
      rw [vA.fin, hFA]; rfl
    rw [hFB, hFA] at HK
    clear hrm vB vA vE vV e1 e2 hFB hFA
    have ld := HBb.out
    go_wp2_with ((with_reducible refine wpList_getB ld ?_ ?_); rfl)
    refine (SaltIn_any x _ hr HX.out).mono ?_
    rw [HSB.out]
    rintro e yv ⟨s1, rfl, hs1, hb⟩
    have HB := Lib.hid (below_toK HB.out hb)
    have HBb := Lib.hid (HBb.out.later hb)
    have HM := Lib.hid (HM.out.later hb)
    have HS := Lib.hid (HS.out.later hb)
    have HS1 := Lib.hid hs1
    clear hs1
    clear ld hb
    have ld := HS.out
    go_wp2_with ((with_reducible refine wpList_getB ld ?_ ?_); rfl)
    refine (SaltIn_any m2 _ HRM.out.1 HRM.out.2).mono ?_
    rw [HSA.out]
    rintro e yv ⟨s2, rfl, hs2, hb⟩
    have HB := Lib.hid (below_toK HB.out hb)
    have HBb := Lib.hid (HBb.out.later hb)
    have HM := Lib.hid (HM.out.later hb)
    have HS := Lib.hid (HS.out.later hb)
    have HS2 := Lib.hid hs2
    clear hs2
    clear ld hb
    have HBL := HB
    have HBbL := HBb
    go_wp2_with (((with_reducible refine wpList_gate ?_); refine wpList_arith _ _ rfl rfl rfl ?_; intro r n hrr))
    have HRR : Hid (Is r (fadd FB FA)) := hrr.op HS1.out HS2.out
    have HBLn := Lib.hid (below_drawn HBL.out n)
    have HBbL := Lib.hid (HBbL.out.drewN n)
    clear hrr HM HS HB HBb HBL
    go_loopw [16, 17, 18] (fun v16 v17 v18 wr => SkRel x.n t (fadd FB FA) w (yv.drewN n) v16 v17 v18 wr) (fun _ _ v18 _ => 64 - (intOf v18).toNat)
    case atStart => exact ⟨0, 0, r, by omega, rfl, rfl, rfl, fb0, HRR.out, HBLn.out, Below.refl _ _⟩
    case round =>
      as_aux_lemma =>
      obtain ⟨i, g, s, hi, rfl, rfl, rfl, hg, hs, hB, hB2⟩ := hrel
      have HB := Lib.hid hB
      have HB2 := Lib.hid hB2
      have HG := Lib.hid hg
      have HS := Lib.hid hs
      have HBb := Lib.hid (HBbL.out.below hB2 HBbL.out.lt)
      clear hB hg hs
      by_cases hil : i < 64
      · have i1 : (i : Int) < 64 := by omega
        have l1 := (BAt.of_blk HBb.out).s (k := i) hil
        have l0 := (BAt.of_blk HBb.out).g.fixed
        simp only [Nat.zero_add] at l0
        obtain ⟨r0, r1'⟩ := shr_range i HSN.out.f0 HSN.out.f1
        have hba := BAt.of_blk HBb.out
        clear hB2
        go_wp2_with ((with_reducible refine wpList_getBG hba ?_ ?_); rfl)
        refine (A2Is_any x.gr i _ hr hil).mono ?_
        cases hh : hasB x.gr.wide x.gr.high i
        · rintro e wa ⟨rfl, hb⟩
          have HB := Lib.hid (below_toK HB.out hb)
          have HB2 := Lib.hid (below_toK HB2.out hb)
          have HLE : Hid (freeL x.n.g (i + 1) = freeL x.n.g i) := freeL_no hh
          clear hb hh l1 l0 hba
          go_wp2_with fail
          go_roundw
          case rel => exact ⟨i + 1, g, s, by omega, rfl, rfl, by go_num, by rw [HLE.out]; exact HG.out, by rw [HLE.out]; exact HS.out, HB.out, HB2.out⟩
          case measure => simp [intOf]; omega
        · rintro e wa ⟨rfl, hb⟩
          have HHH := Lib.hid hh
          have HB := Lib.hid (below_toK HB.out hb)
          have HB2 := Lib.hid (below_toK HB2.out hb)
          have HBb := Lib.hid (HBb.out.later hb)
          have l0 := (BAt.of_blk HBb.out).g.fixed
          simp only [Nat.zero_add] at l0
          clear hb hh l1 hba
          by_cases hf : fixB x.gr.fixed i = true
          · have hf2 : (x.gr.fixed / 2 ^ i % 2 == 1) = true := by have := of_decide_eq_true hf; rw [this]; rfl
            have HLE : Hid (freeL x.n.g (i + 1) = freeL x.n.g i) := freeL_fix HHH.out hf
            clear hf
            go_wp2_with fail
            go_roundw
            case rel => exact ⟨i + 1, g, s, by omega, rfl, rfl, by go_num, by rw [HLE.out]; exact HG.out, by rw [HLE.out]; exact HS.out, HB.out, HB2.out⟩
            case measure => simp [intOf]; omega
          · have hfx : fixB x.gr.fixed i = false := by cases h : fixB x.gr.fixed i; rfl; exact absurd h hf
            have hf2 : (x.gr.fixed / 2 ^ i % 2 == 1) = false := by have h0 := of_decide_eq_false hfx; generalize x.gr.fixed / 2 ^ i % 2 = z at *; simpa using h0
            have HLE : Hid (freeL x.n.g (i + 1) = freeL x.n.g i ++ [i]) := freeL_yes HHH.out hfx
            obtain ⟨ci, co, cs, cq, hcel⟩ := cel HCR.out ⟨hil, HHH.out⟩ hfx
            have hask : askB x.n i = 0 := askB_yes HD.out.ok hil HHH.out
            have HCI : Hid (comesR x.n (i : Int) = (inF x.n i, 0)) := by
              show _ = _
              unfold comesR toldR
              rw [if_pos hask, Int.toNat_natCast, hcel.iv.fin]; rfl
            have HCO : Hid (goesR x.n (i : Int) = (outF x.n.g i, 0)) := by
              show _ = _
              unfold goesR toldR
              rw [if_pos hask, Int.toNat_natCast, hcel.ov.fin]; rfl
            clear hf hfx hcel hask
            have ld := HBb.out
            go_wp2_with ((with_reducible refine wpList_getB ld ?_ ?_); rfl)
            refine (ComesIn_any x i _ hr HX.out).mono ?_
            rw [HCI.out]
            rintro e yv2 ⟨c1, rfl, hq, hb⟩
            have HB := Lib.hid (below_toK HB.out hb)
            have HB2 := Lib.hid (below_toK HB2.out hb)
            have HBb := Lib.hid (HBb.out.later hb)
            have HC1 := Lib.hid hq
            clear ld hb hq
            clear l0 r0 r1' hf2
            have ld := HBb.out
            go_wp2_with ((with_reducible refine wpList_getB ld ?_ ?_); rfl)
            refine (GoesOut_any x i _ hr HX.out).mono ?_
            rw [HCO.out]
            rintro e yv2 ⟨c2, rfl, hq, hb⟩
            have HB := Lib.hid (below_toK HB.out hb)
            have HB2 := Lib.hid (below_toK HB2.out hb)
            have HBb := Lib.hid (HBb.out.later hb)
            have HC2 := Lib.hid hq
            clear ld hb hq
            have ld := HBb.out
            go_wp2_with ((with_reducible refine wpList_getB ld ?_ ?_); rfl)
            refine (specComesIn_any x i _ hr HX.out).mono ?_
            rw [HCI.out]
            rintro e yv2 ⟨c3, rfl, hq, hb⟩
            have HB := Lib.hid (below_toK HB.out hb)
            have HB2 := Lib.hid (below_toK HB2.out hb)
            have HBb := Lib.hid (HBb.out.later hb)
            have HC3 := Lib.hid hq
            clear ld hb hq
            have ld := HBb.out
            go_wp2_with ((with_reducible refine wpList_getB ld ?_ ?_); rfl)
            refine (specGoesOut_any x i _ hr HX.out).mono ?_
            rw [HCO.out]
            rintro e yv2 ⟨c4, rfl, hq, hb⟩
            have HB := Lib.hid (below_toK HB.out hb)
            have HB2 := Lib.hid (below_toK HB2.out hb)
            have HBb := Lib.hid (HBb.out.later hb)
            have HC4 := Lib.hid hq
            clear ld hb hq
            go_wp2_with fail
            refine (SameNumber_eq c1 c3 _ (HC1.out.out.trans HC3.out.out.symm)).mono ?_
            rintro e w4 ⟨rfl, rfl⟩
            go_wp2_with fail
            refine (SameNumber_eq c2 c4 _ (HC2.out.out.trans HC4.out.out.symm)).mono ?_
            rintro e w4 ⟨rfl, rfl⟩
            have l1 := (BAt.of_blk HBb.out).s (k := i) hil
            have HC3b : Hid (fb c3 = inF x.n i) := HC3.out.out
            have HC4b : Hid (fb c4 = outF x.n.g i) := HC4.out.out
            clear HC1 HC2 HC3 HC4 HCI HCO
            go_wp2_with (((with_reducible refine wpList_gate ?_); refine wpList_arith _ _ rfl rfl rfl ?_; intro r n hrr))
            rename_i ra na ha rb nb hb rc nc hc rd nd hd re ne he rf nf hf rg ng hg rh nh hh
            have P1 : Hid (Is rd (accF (gT x.n t) (some 0) (freeL x.n.g (i + 1)))) := by
              show fb rd = _
              rw [HLE.out, accF_snoc, hd.out, fop, HG.out.out, hc.out, fop, hb.out, fop, ha.out, fop, HC3b.out, HC4b.out, HT2.out, ← fm_of hil]
              rfl
            have P2 : Hid (Is r (accF (sT x.n t) (fadd FB FA) (freeL x.n.g (i + 1)))) := by
              show fb r = _
              rw [HLE.out, accF_snoc, hrr.out, fop, HS.out.out, hh.out, fop, hg.out, fop, hf.out, fop, he.out, fop, HC3b.out, HC4b.out, HT2.out, ← fm_of hil]
              rfl
            clear ha hb hc hd he hf hg hh hrr l1
            go_roundw
            case rel => exact ⟨i + 1, rd, r, by omega, rfl, rfl, by go_num, P1.out, P2.out, below_drawn HB.out _, below_drawn HB2.out _⟩
            case measure => simp [intOf]; omega
      · have i1 : ¬ (i : Int) < 64 := by omega
        obtain rfl : i = 64 := by omega
        clear hB2 HB2
        have hk := HK.out
        obtain ⟨vE, vV, e1, e2, e3⟩ := hk
        obtain ⟨pa, hpa, hpv⟩ := abs_le vE e1 e2 e3
        have HPA := Lib.hid (show RV (fabs (fsub (fsub FA FB) (accF (gT x.n t) (some 0) (freeL x.n.g 64)))) pa from hpa)
        have HPV := Lib.hid vV
        clear vE vV e1 e2 e3 hpa HK
        go_wp2_with (((with_reducible refine wpList_gate ?_); refine wpList_arith _ _ rfl rfl rfl ?_; intro r n hrr))
        rename_i ra na ha K9 a9
        have HE : Hid (Is r (fsub (fsub FA FB) (accF (gT x.n t) (some 0) (freeL x.n.g 64)))) := by
          show fb r = _
          rw [hrr.out, fop, ha.out, fop, HG.out.out, HS2.out.out, HS1.out.out]
        have HBr := Lib.hid (below_drawn HB.out (na + n))
        have HBbr := Lib.hid (HBb.out.drewN (na + n))
        clear ha hrr
        refine (A2Size_any r _ _ HE.out).mono ?_
        rintro e wz ⟨rz, rfl, hrz, hb⟩
        have HB := Lib.hid (below_toK HBr.out hb)
        have HBb := Lib.hid (HBbr.out.later hb)
        have HZ : Hid (∀ rm rv, Is rm (fop .mul (fb s) (fb 953267991)) → Is rv (fop .add (fb rm) (fb 953267991)) → fgt (fb rz) (fb rv) = false) := fun rm rv h1 h2 => by
          have ec : fb 953267991 = some 953267991 := by decide
          rw [h2.out, fop, h1.out, fop, HS.out.out, ec, hrz.out, HPA.out.gt HPV.out]
          exact decide_eq_false (by grind)
        have ld := HBb.out
        clear hb hrz HE
        have hgt := order_gt
        go_wp2_with (first | ((with_reducible refine wpList_gate ?_); refine wpList_arith _ _ rfl rfl rfl ?_; intro r n hrr; have hz := HZ.out _ _ (by assumption) hrr) | ((with_reducible refine wpList_gate ?_); refine wpList_arith _ _ rfl rfl rfl ?_; intro r n hrr) | ((with_reducible refine wpList_getB (ld.drewN _) ?_ ?_); rfl) | (with_reducible refine wpList_new newB ?_))
        intro C yb q1 q2 q3 q4
        have HBn := Lib.hid (below_toK (below_drawn HB.out _) q4)
        have hwC : w.heap.size ≤ C := by have h1 := HB.out.size; have h2 : wz.heap.size ≤ C := q1; omega
        have hBC : B < C := by have h1 := HBb.out.lt; have h2 : wz.heap.size ≤ C := q1; omega
        have HBb := Lib.hid ((HBb.out.drewN _).later q4)
        clear q4 ld
        go_wp2_with ((with_reducible refine wpList_putB (x := x) q3 ?_ ?_ ?_); rfl; rfl)
        intro yc sc bc kc
        have HB := Lib.hid (below_grown HBn.out kc HBn.out.size hwC)
        have HBb := Lib.hid (HBb.out.grown kc (by omega))
        have HC := Lib.hid bc
        clear q3 bc kc sc
        go_wp2_with fail
        go_loopw [28] (fun v28 wr => StRel x w B C v28 wr) (fun v28 _ => 64 - (intOf v28).toNat)
        case atStart => exact ⟨0, x.gr.h, x.gr.g, by omega, rfl, fun j hj => absurd hj (by omega), fun j hj => absurd hj (by omega), HC.out, HBb.out, HB.out⟩
        case round =>
          as_aux_lemma =>
          obtain ⟨k, h', g', hk, rfl, hh, hg, hc, hbb, hB⟩ := hrel
          have HC := Lib.hid hc
          have HBb := Lib.hid hbb
          have HB := Lib.hid hB
          have HH := Lib.hid hh
          have HGG := Lib.hid hg
          clear hc hbb hB hh hg
          by_cases hkl : k < 64
          · have k1 : (k : Int) < 64 := by omega
            go_wp2_with ((with_reducible refine wpList_setBG (x := x) (h' := h') (g' := g') (k := k) (r := 0) HC.out hkl ?_ ?_ ?_); rfl; rfl)
            intro u1 z1 b1 k1'
            have HB := Lib.hid (below_grown HB.out k1' HB.out.size hwC)
            have HBb := Lib.hid (HBb.out.grown k1' (by omega))
            have HC := Lib.hid b1
            clear b1 k1'
            go_wp2_with ((with_reducible refine wpList_setBH (x := x) (h' := h') (g' := upd g' k 0) (k := k) (r := 0) HC.out hkl ?_ ?_ ?_); rfl; rfl)
            intro u2 z2 b2 k2'
            have HB := Lib.hid (below_grown HB.out k2' HB.out.size hwC)
            have HBb := Lib.hid (HBb.out.grown k2' (by omega))
            have HC := Lib.hid b2
            clear b2 k2'
            go_wp2_with fail
            go_roundw
            case rel =>
              refine ⟨k + 1, upd h' k 0, upd g' k 0, by omega, by go_num, fun j hj => ?_, fun j hj => ?_, HC.out, HBb.out, HB.out⟩
              · unfold upd; by_cases e : j = k
                · rw [if_pos e]
                · rw [if_neg e]; exact HH.out j (by omega)
              · unfold upd; by_cases e : j = k
                · rw [if_pos e]
                · rw [if_neg e]; exact HGG.out j (by omega)
            case measure => simp [intOf]; omega
          · have k1 : ¬ (k : Int) < 64 := by omega
            obtain rfl : k = 64 := by omega
            have HSL := Lib.hid (stl_of HD.out HH.out HGG.out)
            have hc := HC.out
            have HYR : Hid ((withHG x h' g').gr.Rng ∧ (withHG x h' g').gr.Fx) := ⟨hr, HX.out⟩
            go_wp2_with fail
            refine wp_chain [] (fun _ => arrB B0) (by kernel_rfl) (by kernel_rfl) ?_
            (with_reducible refine n_get hc (by simp) Try.underlying54 rfl (by rw [arrB_size]; exact sizeB) ?_ ?_); rfl
            (refine n_step (fun K hK => ?_); go_simp; (try go_bits); refine hK _ _ ?_; clear hK K)
            refine n_step (fun K hK => ?_); go_simp; refine ⟨_, _, ⟨rfl, rfl⟩, rfl, fun v1 hv1 => ?_⟩
            refine (a2At_any v' n' 0 100 v1 (by omega) (by omega) (HV'.out.far (below_toK HB.out hv1))).mono ?_
            rintro e v2 ⟨za, rfl, hza, hv2⟩
            refine ⟨_, rfl, hv2, hK _ _ ?_⟩
            clear hK K
            have HQ2 := Lib.hid (below_thru hv1 hv2)
            clear hv1 hv2
            (refine n_step (fun K hK => ?_); go_simp; (try go_bits); refine hK _ _ ?_; clear hK K)
            (refine n_step (fun K hK => ?_); go_simp; (try go_bits); refine hK _ _ ?_; clear hK K)
            refine n_step (fun K hK => ?_); go_simp; refine ⟨_, _, ⟨rfl, rfl⟩, rfl, fun v3 hv3 => ?_⟩
            refine (a2At_any v' n' 1 4 v3 (by omega) (by omega) (HV'.out.far (below_toK HB.out (below_thru HQ2.out hv3)))).mono ?_
            rintro e v4 ⟨zb, rfl, hzb, hv4⟩
            refine ⟨_, rfl, hv4, hK _ _ ?_⟩
            clear hK K
            have HQ4 := Lib.hid (below_thru (below_thru HQ2.out hv3) hv4)
            clear hv3 hv4
            have hfl : fb (floatOfInt FloatKind.f32 (za : Int)) = ofI (za : Int) := Is.ofI (za : Int)
            have HTM : Hid (timesR (withHG x h' g').n (fb (floatOfInt FloatKind.f32 (za : Int))) (zb : Int) = ((withHG x h' g').n, 0)) := by
              show _ = _
              obtain ⟨a1, a2, a3⟩ := rv_of100 hza
              rw [hfl]
              exact HSL.out.times a1 a2 (by grind) (by omega)
            clear hfl
            refine n_step (fun K hK => ?_); go_simp; refine ⟨_, _, ⟨rfl, rfl⟩, rfl, fun v5 hv5 => ?_⟩
            refine (MoveTimes_any (withHG x h' g') (floatOfInt FloatKind.f32 (za : Int)) (zb : Int) v5 HYR.out.1 HYR.out.2).mono ?_
            rw [HTM.out]
            rintro e v6 ⟨ya, rfl, hya, hv6⟩
            refine ⟨_, rfl, hv6, hK _ _ ?_⟩
            clear hK K
            have HQ6 := Lib.hid (below_thru (below_thru HQ4.out hv5) hv6)
            clear hv5 hv6 HQ2 HQ4
            repeat (refine n_step (fun K hK => ?_); go_simp; (try go_bits); refine hK _ _ ?_; clear hK K)
            refine n_alloc newB ?_
            intro Ba hBa
            refine n_put (cells := arrB ya) (old := arrB B0) (fun w2 _ hΦ => hΦ.2.2) (.inl hBa) (Cls.of_below HQ6.out) (by rw [arrB_size]; exact sizeB) (by rw [arrB_size, arrB_size]) (arrB_one ya) rfl rfl ?_
            intro w2 w2x hb2 hP2 b2x k2x HC2x
            have HQ2 := Lib.hid (below_thru HQ6.out hb2)
            clear hb2 hP2 HQ6
            repeat (refine n_step (fun K hK => ?_); go_simp; (try go_bits); refine hK _ _ ?_; clear hK K)
            refine n_nil ?_
            rintro w3 hw3 _
            have b3 := b2x.later hw3
            have k3 := grown_trans k2x (grown_below hw3)
            clear b2x k2x hw3 HC2x
            have hlC : C < Ba := by have := HC.out.lt; omega
            have HC := Lib.hid ((hc.later HQ2.out).grown k3 (by omega))
            have HB := Lib.hid (below_grown (below_toK HB.out HQ2.out) k3 (by have h1 := HB.out.size; have h2 := HQ2.out.size; omega) (by have h1 := HB.out.size; omega))
            clear k3 HQ2 hc
            have lc := HC.out
            go_wp2_with (first | ((with_reducible refine wpList_getBgd ?_ b3 ?_ ?_); (exact rfl); rfl) | ((with_reducible refine wpList_getBgd ?_ lc ?_ ?_); (exact rfl); rfl))
            refine (SameBrine_eq ya (withHG x h' g') _ hya).mono ?_
            rintro e w5 ⟨rfl, hb⟩
            have HB := Lib.hid (below_toK HB.out hb)
            clear hb lc b3
            go_wp2_with fail
            go_ret
            exact ⟨rfl, HB.out⟩
end Go.Proofs.Ytfcphfdfpjmgiaa
