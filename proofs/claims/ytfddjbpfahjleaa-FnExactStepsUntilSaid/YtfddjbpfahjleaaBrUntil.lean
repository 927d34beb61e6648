/- The steps until a cell has so much salt: both sides. -/
import Derived.Test.YtfddjbpfahjleaaBrTimes
import Derived.Test.YtfddjbpfahjleaaBrAsk
namespace Go.Proofs.Ytfddjbpfahjleaa
open Go.RowKit

/-- The first step behind which a cell has so much salt. -/
def uGo (t lv : F) (c : Nat) : Nat → Nat → N → Int × Int
  | 0, k, m => if fge (m.s c) lv then ((k : Int), 0) else (0, 7)
  | f + 1, k, m => if fge (m.s c) lv then ((k : Int), 0) else if okB (mvT m t) then uGo t lv c f (k + 1) (mvT m t) else (0, 4)
theorem uGo_yes {t lv : F} {c f k : Nat} {m : N} (h : fge (m.s c) lv = true) : uGo t lv c f k m = ((k : Int), 0) := by
  cases f <;> (unfold uGo; rw [h]; rfl)
theorem uGo_end {t lv : F} {c k : Nat} {m : N} (h : fge (m.s c) lv = false) : uGo t lv c 0 k m = (0, 7) := by
  unfold uGo; rw [h]; rfl
theorem uGo_bad {t lv : F} {c f k : Nat} {m : N} (h : fge (m.s c) lv = false) (ho : okB (mvT m t) = false) : uGo t lv c (f + 1) k m = (0, 4) := by
  unfold uGo; rw [h, ho]; rfl
theorem uGo_more {t lv : F} {c f k : Nat} {m : N} (h : fge (m.s c) lv = false) (ho : okB (mvT m t) = true) : uGo t lv c (f + 1) k m = uGo t lv c f (k + 1) (mvT m t) := by
  show (if fge (m.s c) lv then _ else if okB (mvT m t) then _ else _) = _; rw [h, ho]; rfl
def untilB (n : N) (t lv : F) (z most : Int) : Int × Int :=
  if askB n z = 0 then (if (decide (0 ≤ most) && decide (most ≤ 1000)) && (plain lv && smallB n t) then uGo t lv z.toNat most.toNat 0 n else (0, 2)) else (0, askB n z)
theorem untilB_ask {n : N} {t lv : F} {z most : Int} (h : ¬ askB n z = 0) : untilB n t lv z most = (0, askB n z) := if_neg h
theorem untilB_no {n : N} {t lv : F} {z most : Int} (h : askB n z = 0) (h2 : ((decide (0 ≤ most) && decide (most ≤ 1000)) && (plain lv && smallB n t)) = false) : untilB n t lv z most = (0, 2) := by
  unfold untilB; rw [if_pos h, h2]; rfl
theorem untilB_go {n : N} {t lv : F} {z most : Int} (h : askB n z = 0) (h2 : ((decide (0 ≤ most) && decide (most ≤ 1000)) && (plain lv && smallB n t)) = true) : untilB n t lv z most = uGo t lv z.toNat most.toNat 0 n := by
  unfold untilB; rw [if_pos h, h2]; rfl

/-- Two whole numbers are handed back. -/
def RetZZ (r : Int × Int) (w : World) (e : Ending) (w' : World) : Prop := e = .returned (.tuple #[.int .i64 r.1, .int .i64 r.2]) ∧ Below w.heap.size w w'

/-- The brine so far lies in a block; what is left to be gone is the same. -/
def UntilRel (x : Br) (t lv : F) (c : Nat) (most : Int) (w : World) (O : Nat) (v : Value) (wr : World) : Prop :=
  ∃ (k : Nat) (y : Br), (k : Int) ≤ most ∧ v = .int .i64 k ∧ uGo t lv c (most.toNat - k) k y.n = uGo t lv c most.toNat 0 x.n ∧ y.gr = x.gr ∧ y.n.room = x.n.room ∧ Blk wr O (arrB y) 36 ∧ w.grownBy wr (some O) ∧ w.heap.size ≤ wr.heap.size

set_option maxRecDepth 100000 in
set_option maxHeartbeats 3200000 in
theorem StepsUntil_any (x : Br) (t lv : Nat) (z most : Int) (w : World) (hr : x.gr.Rng) (hx : x.gr.Fx) :
    Calls Try.prog 37 #[.agg (arrB x), .float .f32 t, .int .i64 z, .float .f32 lv, .int .i64 most] w (RetZZ (untilB x.n (fb t) (fb lv) z most) w) := by
  have hgt' := order_gt
  have heq' := order_eq
  by_cases h0 : askB x.n z = 0
  rotate_left
  · obtain ⟨c, hc⟩ : ∃ c, askB x.n z = c := ⟨_, rfl⟩
    have HW : Hid (untilB x.n (fb t) (fb lv) z most = (0, c)) := by show _ = _; rw [untilB_ask h0, hc]
    have hc0 : ¬ c = 0 := by rw [← hc]; exact h0
    have HC := Lib.hid hc
    clear hc h0
    go_enter Try.func37, Try.ntmps37
    go_wp2_with (with_reducible refine wpList_box rfl ?_)
    intro b w1 hB1 hB2 hB3 hB4
    go_wp2_with fail
    refine (brineFault_any b _ z x w1 hr hx hB3).mono ?_
    rw [HC.out]
    rintro e w2 ⟨rfl, hb2⟩
    have hX2 := hB3.later hb2
    have HB2 := Lib.hid (hB4.trans (hb2.mono hB4.size))
    have hb_ : w.heap.size ≤ b := hB1
    clear hB3 hB4 hb2
    go_wp2_with fail
    go_ret2
    exact ⟨by rw [HW.out]; rfl, HB2.out⟩
  obtain ⟨hok, k, rfl, hk, hh⟩ := askB_zero h0
  have hs := sane_of (okB_g hok) hx
  have H0 := Lib.hid h0
  cases hz : decide (0 ≤ most) && decide (most ≤ 1000)
  · have HW : Hid (untilB x.n (fb t) (fb lv) k most = (0, 2)) := by show _ = _; rw [untilB_no h0 (by rw [hz]; rfl)]
    have HZ : Hid ((decide (0 ≤ most) && decide (most ≤ 1000)) = false) := hz
    clear h0 hz hok hh
    go_enter Try.func37, Try.ntmps37
    go_wp2_with (with_reducible refine wpList_box rfl ?_)
    intro b w1 hB1 hB2 hB3 hB4
    go_wp2_with fail
    refine (brineFault_any b _ k x w1 hr hx hB3).mono ?_
    rw [H0.out]
    rintro e w2 ⟨rfl, hb2⟩
    have hX2 := hB3.later hb2
    have HB2 := Lib.hid (hB4.trans (hb2.mono hB4.size))
    have hb_ : w.heap.size ≤ b := hB1
    clear hB3 hB4 hb2
    go_wp2_with (go_at_call 73; refine (isTimes_any most _).mono ?_; rw [HZ.out]; rintro e w' ⟨rfl, rfl⟩)
    go_ret2
    exact ⟨by rw [HW.out]; rfl, HB2.out⟩
  cases hp : plain (fb lv)
  · have HW : Hid (untilB x.n (fb t) (fb lv) k most = (0, 2)) := by show _ = _; rw [untilB_no h0 (by rw [hz, hp]; rfl)]
    have HZ : Hid ((decide (0 ≤ most) && decide (most ≤ 1000)) = true) := hz
    have HP := Lib.hid hp
    clear h0 hz hok hh hp
    go_enter Try.func37, Try.ntmps37
    go_wp2_with (with_reducible refine wpList_box rfl ?_)
    intro b w1 hB1 hB2 hB3 hB4
    go_wp2_with fail
    refine (brineFault_any b _ k x w1 hr hx hB3).mono ?_
    rw [H0.out]
    rintro e w2 ⟨rfl, hb2⟩
    have hX2 := hB3.later hb2
    have HB2 := Lib.hid (hB4.trans (hb2.mono hB4.size))
    have hb_ : w.heap.size ≤ b := hB1
    clear hB3 hB4 hb2
    go_wp2_with (go_at_call 73; refine (isTimes_any most _).mono ?_; rw [HZ.out]; rintro e w' ⟨rfl, rfl⟩)
    refine (IsPlain_any lv w2).mono ?_
    rw [HP.out]
    rintro e w3 ⟨rfl, hb3⟩
    have hX3 := hX2.later hb3
    have HB3 := Lib.hid (HB2.out.trans (hb3.mono HB2.out.size))
    clear hb3 hX2
    go_wp2_with fail
    go_ret2
    exact ⟨by rw [HW.out]; rfl, HB3.out⟩
  cases hsm : smallB x.n (fb t)
  · have HW : Hid (untilB x.n (fb t) (fb lv) k most = (0, 2)) := by show _ = _; rw [untilB_no h0 (by rw [hz, hp, hsm]; rfl)]
    have HZ : Hid ((decide (0 ≤ most) && decide (most ≤ 1000)) = true) := hz
    have HP := Lib.hid hp
    have HSM := Lib.hid hsm
    clear h0 hz hok hh hp hsm
    go_enter Try.func37, Try.ntmps37
    go_wp2_with (with_reducible refine wpList_box rfl ?_)
    intro b w1 hB1 hB2 hB3 hB4
    go_wp2_with fail
    refine (brineFault_any b _ k x w1 hr hx hB3).mono ?_
    rw [H0.out]
    rintro e w2 ⟨rfl, hb2⟩
    have hX2 := hB3.later hb2
    have HB2 := Lib.hid (hB4.trans (hb2.mono hB4.size))
    have hb_ : w.heap.size ≤ b := hB1
    clear hB3 hB4 hb2
    go_wp2_with (go_at_call 73; refine (isTimes_any most _).mono ?_; rw [HZ.out]; rintro e w' ⟨rfl, rfl⟩)
    refine (IsPlain_any lv w2).mono ?_
    rw [HP.out]
    rintro e w3 ⟨rfl, hb3⟩
    have hX3 := hX2.later hb3
    have HB3 := Lib.hid (HB2.out.trans (hb3.mono HB2.out.size))
    clear hb3 hX2
    go_wp2_with fail
    refine (small_any b t x w3 hs (BAt.of_blk hX3)).mono ?_
    rw [HSM.out]
    rintro e w4 ⟨rfl, hb4⟩
    have hX4 := hX3.later hb4
    have HB4 := Lib.hid (HB3.out.trans (hb4.mono HB3.out.size))
    clear hb4 hX3
    go_wp2_with fail
    go_ret2
    exact ⟨by rw [HW.out]; rfl, HB4.out⟩
  have HW0 : Hid (untilB x.n (fb t) (fb lv) k most = uGo (fb t) (fb lv) k most.toNat 0 x.n) := by show _ = _; rw [untilB_go h0 (by rw [hz, hp, hsm]; rfl)]; rfl
  have hz2 := hz
  rw [Bool.and_eq_true] at hz2
  have z0 : 0 ≤ most := of_decide_eq_true hz2.1
  have z1 : most ≤ 1000 := of_decide_eq_true hz2.2
  have HZ : Hid ((decide (0 ≤ most) && decide (most ≤ 1000)) = true) := hz
  have HP := Lib.hid hp
  have HSM := Lib.hid hsm
  have k1 : (k : Int) < 64 := by omega
  clear h0 hz hok hh hp hsm hz2
  go_enter Try.func37, Try.ntmps37
  go_wp2_with (with_reducible refine wpList_box rfl ?_)
  intro b w1 hB1 hB2 hB3 hB4
  go_wp2_with fail
  refine (brineFault_any b _ k x w1 hr hx hB3).mono ?_
  rw [H0.out]
  rintro e w2 ⟨rfl, hb2⟩
  have hX2 := hB3.later hb2
  have HB2 := Lib.hid (hB4.trans (hb2.mono hB4.size))
  have hb_ : w.heap.size ≤ b := hB1
  clear hB3 hB4 hb2
  go_wp2_with (go_at_call 73; refine (isTimes_any most _).mono ?_; rw [HZ.out]; rintro e w' ⟨rfl, rfl⟩)
  refine (IsPlain_any lv w2).mono ?_
  rw [HP.out]
  rintro e w3 ⟨rfl, hb3⟩
  have hX3 := hX2.later hb3
  have HB3 := Lib.hid (HB2.out.trans (hb3.mono HB2.out.size))
  clear hb3 hX2
  go_wp2_with fail
  refine (small_any b t x w3 hs (BAt.of_blk hX3)).mono ?_
  rw [HSM.out]
  rintro e w4 ⟨rfl, hb4⟩
  have hX4 := hX3.later hb4
  have HB4 := Lib.hid (HB3.out.trans (hb4.mono HB3.out.size))
  clear hb4 hX3
  have HX4 := Lib.hid hX4
  have hbl : b < w4.heap.size := hX4.lt
  clear hX4
  go_wp2_with fail
  go_loopw [13] (fun vk wr => UntilRel x (fb t) (fb lv) k most w4 b vk wr) (fun vk _ => 1 + most.toNat - (intOf vk).toNat)
  case atStart => exact ⟨0, x, by omega, rfl, rfl, rfl, rfl, HX4.out, grown_refl _ _, Nat.le_refl _⟩
  case round =>
    obtain ⟨j, y, hj, rfl, hgo, hgr, hroom, hY, hgrow, hsz⟩ := hrel
    have HGO := Lib.hid hgo
    have HG := Lib.hid hgrow
    have HY := Lib.hid hY
    have HGR := Lib.hid hgr
    have HRM := Lib.hid hroom
    have hsy : y.gr.Sane := by rw [hgr]; exact hs
    have hxy : y.gr.Fx := by rw [hgr]; exact hx
    have HSMY : Hid (smallB y.n (fb t) = true) := by
      show _ = _
      rw [smallB_same (n := x.n) (congrArg G.m hgr) hroom]; exact HSM.out
    have q2 := (BAt.of_blk hY).s hk
    have HBW := Lib.hid (below_grown HB4.out hgrow HB4.out.size hb_)
    clear hgo hgrow hY hgr hroom
    cases h1 : fgt (fb (y.s k)) (fb lv)
    rotate_left
    · have HF : Hid (fge (y.n.s k) (fb lv) = true) := by
        show fge (fm y.s k) _ = _; rw [fm_of hk]; unfold fge; rw [h1]; rfl
      have HW : Hid (untilB x.n (fb t) (fb lv) k most = ((j : Int), 0)) := by show _ = _; rw [HW0.out, ← HGO.out, uGo_yes HF.out]
      go_wp2_with fail
      go_ret2
      exact ⟨by rw [HW.out]; rfl, HBW.out⟩
    cases h2 : feq (fb (y.s k)) (fb lv)
    rotate_left
    · have HF : Hid (fge (y.n.s k) (fb lv) = true) := by
        show fge (fm y.s k) _ = _; rw [fm_of hk]; unfold fge; rw [h1, h2]; rfl
      have HW : Hid (untilB x.n (fb t) (fb lv) k most = ((j : Int), 0)) := by show _ = _; rw [HW0.out, ← HGO.out, uGo_yes HF.out]
      go_wp2_with fail
      go_ret2
      exact ⟨by rw [HW.out]; rfl, HBW.out⟩
    have HF : Hid (fge (y.n.s k) (fb lv) = false) := by
      show fge (fm y.s k) _ = _; rw [fm_of hk]; unfold fge; rw [h1, h2]; rfl
    by_cases hlt : (j : Int) = most
    · obtain rfl : most = j := hlt.symm
      have HW : Hid (untilB x.n (fb t) (fb lv) k j = (0, 7)) := by
        show _ = _
        rw [HW0.out, ← HGO.out, show ((j : Nat) : Int).toNat - j = 0 by omega, uGo_end HF.out]
      go_wp2_with fail
      go_ret2
      exact ⟨by rw [HW.out]; rfl, HBW.out⟩
    obtain ⟨f, hf⟩ : ∃ f, most.toNat - j = f + 1 := ⟨most.toNat - j - 1, by omega⟩
    have hf2 : most.toNat - (j + 1) = f := by omega
    have j2 : (j : Int) < most := by omega
    rw [hf] at HGO
    cases hok : okB (mvT y.n (fb t))
    · have HOKM := Lib.hid hok
      have HMV : Hid (mvR y.n (fb t) = (B0.n, 4)) := by show _ = _; unfold mvR; rw [HSMY.out, hok]; rfl
      clear hok
      go_wp2_with fail
      refine (moved_any b t _ y wr hsy hxy HY.out).mono ?_
      rw [HMV.out]
      rintro e w6 ⟨y', rfl, hn', hg', hb6⟩
      have HN' := Lib.hid hn'
      have HG6 := Lib.hid (grown_trans HG.out (grown_below hb6))
      have hY6 := HY.out.later hb6
      have hs6 := hb6.size
      clear hn' hb6 q2
      go_wp2_with (with_reducible refine wpList_new newB ?_)
      intro Q w7 hQ1 hQ2 hQ3 hQ4
      have hY7 := hY6.later hQ4
      have HG7 := Lib.hid (grown_trans HG6.out (grown_below hQ4))
      go_wp2_with ((with_reducible refine wpList_putB (x := y') hQ3 ?_ ?_ ?_); rfl; rfl)
      intro w8 s8 b8 k8
      have hYQ : b < Q := by have := hY6.lt; omega
      have hY8 := hY7.grown k8 (by omega)
      have hQ4s := hQ4.size
      have HG8 : Hid (w4.grownBy w8 (some b)) := grown_new HG7.out k8 (by omega)
      clear hQ3 hQ4 hY6 hY7 k8
      have HW : Hid (untilB x.n (fb t) (fb lv) k most = (0, 4)) := by
        show _ = _
        rw [HW0.out, ← HGO.out, uGo_bad HF.out HOKM.out]
      have HB8 := Lib.hid (below_grown HB4.out HG8.out HB4.out.size hb_)
      go_wp2_with fail
      go_ret2
      exact ⟨by rw [HW.out]; rfl, HB8.out⟩
    · have HOKM := Lib.hid hok
      have HMV : Hid (mvR y.n (fb t) = (mvT y.n (fb t), 0)) := by show _ = _; unfold mvR; rw [HSMY.out, hok]; rfl
      clear hok
      go_wp2_with fail
      refine (moved_any b t _ y wr hsy hxy HY.out).mono ?_
      rw [HMV.out]
      rintro e w6 ⟨y', rfl, hn', hg', hb6⟩
      have HN' := Lib.hid hn'
      have HG6 := Lib.hid (grown_trans HG.out (grown_below hb6))
      have hY6 := HY.out.later hb6
      have hs6 := hb6.size
      clear hn' hb6 q2
      go_wp2_with (with_reducible refine wpList_new newB ?_)
      intro Q w7 hQ1 hQ2 hQ3 hQ4
      have hY7 := hY6.later hQ4
      have HG7 := Lib.hid (grown_trans HG6.out (grown_below hQ4))
      go_wp2_with ((with_reducible refine wpList_putB (x := y') hQ3 ?_ ?_ ?_); rfl; rfl)
      intro w8 s8 b8 k8
      have hYQ : b < Q := by have := hY6.lt; omega
      have hY8 := hY7.grown k8 (by omega)
      have hQ4s := hQ4.size
      have HG8 : Hid (w4.grownBy w8 (some b)) := grown_new HG7.out k8 (by omega)
      clear hQ3 hQ4 hY6 hY7 k8
      go_wp2_with (first | ((with_reducible refine wpList_getB b8 ?_ ?_); rfl) | ((with_reducible refine wpList_putB (x := y') hY8 ?_ ?_ ?_); rfl; rfl))
      intro w9 s9 b9 k9
      have H9 := Lib.hid b9
      have HG9 := Lib.hid (grown_trans HG8.out k9)
      have hg2 : y'.gr = x.gr := (hg' (by trivial)).trans HGR.out
      have HGO2 : Hid (uGo (fb t) (fb lv) k (most.toNat - (j + 1)) (j + 1) y'.n = uGo (fb t) (fb lv) k most.toNat 0 x.n) := by
        show _ = _; rw [hf2, HN'.out, ← uGo_more HF.out HOKM.out]; exact HGO.out
      have hrm2 : Hid (y'.n.room = x.n.room) := by show _ = _; rw [HN'.out]; exact HRM.out
      clear hg' b9 k9 b8 hY8
      go_wp2_with fail
      go_roundw
      case rel => exact ⟨j + 1, y', by omega, by go_num, HGO2.out, hg2, hrm2.out, H9.out, HG9.out, by omega⟩
      case measure => simp [intOf]; omega

set_option maxRecDepth 100000 in
set_option maxHeartbeats 3200000 in
theorem specStepsUntil_any (x : Br) (t lv : Nat) (z most : Int) (w : World) (hr : x.gr.Rng) (hx : x.gr.Fx) :
    Calls Try.prog 36 #[.agg (arrB x), .float .f32 t, .int .i64 z, .float .f32 lv, .int .i64 most] w (RetZZ (untilB x.n (fb t) (fb lv) z most) w) := by
  have hgt' := order_gt
  have heq' := order_eq
  by_cases h0 : askB x.n z = 0
  rotate_left
  · obtain ⟨c, hc⟩ : ∃ c, askB x.n z = c := ⟨_, rfl⟩
    have HW : Hid (untilB x.n (fb t) (fb lv) z most = (0, c)) := by show _ = _; rw [untilB_ask h0, hc]
    have hc0 : ¬ c = 0 := by rw [← hc]; exact h0
    have HC := Lib.hid hc
    clear hc h0
    go_enter Try.func36, Try.ntmps36
    go_wp2_with (with_reducible refine wpList_box rfl ?_)
    intro b w1 hB1 hB2 hB3 hB4
    go_wp2_with fail
    refine (l05Asked_any b _ z x w1 hr hx hB3).mono ?_
    rw [HC.out]
    rintro e w2 ⟨rfl, hb2⟩
    have hX2 := hB3.later hb2
    have HB2 := Lib.hid (hB4.trans (hb2.mono hB4.size))
    have hb_ : w.heap.size ≤ b := hB1
    clear hB3 hB4 hb2
    go_wp2_with fail
    go_ret2
    exact ⟨by rw [HW.out]; rfl, HB2.out⟩
  obtain ⟨hok, k, rfl, hk, hh⟩ := askB_zero h0
  have hs := sane_of (okB_g hok) hx
  have H0 := Lib.hid h0
  cases hz : decide (0 ≤ most) && decide (most ≤ 1000)
  · have HW : Hid (untilB x.n (fb t) (fb lv) k most = (0, 2)) := by show _ = _; rw [untilB_no h0 (by rw [hz]; rfl)]
    have HZ : Hid ((decide (0 ≤ most) && decide (most ≤ 1000)) = false) := hz
    clear h0 hz hok hh
    go_enter Try.func36, Try.ntmps36
    go_wp2_with (with_reducible refine wpList_box rfl ?_)
    intro b w1 hB1 hB2 hB3 hB4
    go_wp2_with fail
    refine (l05Asked_any b _ k x w1 hr hx hB3).mono ?_
    rw [H0.out]
    rintro e w2 ⟨rfl, hb2⟩
    have hX2 := hB3.later hb2
    have HB2 := Lib.hid (hB4.trans (hb2.mono hB4.size))
    have hb_ : w.heap.size ≤ b := hB1
    clear hB3 hB4 hb2
    go_wp2_with (go_at_call 71; refine (l00In_any most 0 1000 _).mono ?_; rw [HZ.out]; rintro e w' ⟨rfl, rfl⟩)
    go_ret2
    exact ⟨by rw [HW.out]; rfl, HB2.out⟩
  cases hp : plain (fb lv)
  · have HW : Hid (untilB x.n (fb t) (fb lv) k most = (0, 2)) := by show _ = _; rw [untilB_no h0 (by rw [hz, hp]; rfl)]
    have HZ : Hid ((decide (0 ≤ most) && decide (most ≤ 1000)) = true) := hz
    have HP := Lib.hid hp
    clear h0 hz hok hh hp
    go_enter Try.func36, Try.ntmps36
    go_wp2_with (with_reducible refine wpList_box rfl ?_)
    intro b w1 hB1 hB2 hB3 hB4
    go_wp2_with fail
    refine (l05Asked_any b _ k x w1 hr hx hB3).mono ?_
    rw [H0.out]
    rintro e w2 ⟨rfl, hb2⟩
    have hX2 := hB3.later hb2
    have HB2 := Lib.hid (hB4.trans (hb2.mono hB4.size))
    have hb_ : w.heap.size ≤ b := hB1
    clear hB3 hB4 hb2
    go_wp2_with (go_at_call 71; refine (l00In_any most 0 1000 _).mono ?_; rw [HZ.out]; rintro e w' ⟨rfl, rfl⟩)
    refine (l01Plain_any lv w2).mono ?_
    rw [HP.out]
    rintro e w3 ⟨rfl, hb3⟩
    have hX3 := hX2.later hb3
    have HB3 := Lib.hid (HB2.out.trans (hb3.mono HB2.out.size))
    clear hb3 hX2
    go_wp2_with fail
    go_ret2
    exact ⟨by rw [HW.out]; rfl, HB3.out⟩
  cases hsm : smallB x.n (fb t)
  · have HW : Hid (untilB x.n (fb t) (fb lv) k most = (0, 2)) := by show _ = _; rw [untilB_no h0 (by rw [hz, hp, hsm]; rfl)]
    have HZ : Hid ((decide (0 ≤ most) && decide (most ≤ 1000)) = true) := hz
    have HP := Lib.hid hp
    have HSM := Lib.hid hsm
    clear h0 hz hok hh hp hsm
    go_enter Try.func36, Try.ntmps36
    go_wp2_with (with_reducible refine wpList_box rfl ?_)
    intro b w1 hB1 hB2 hB3 hB4
    go_wp2_with fail
    refine (l05Asked_any b _ k x w1 hr hx hB3).mono ?_
    rw [H0.out]
    rintro e w2 ⟨rfl, hb2⟩
    have hX2 := hB3.later hb2
    have HB2 := Lib.hid (hB4.trans (hb2.mono hB4.size))
    have hb_ : w.heap.size ≤ b := hB1
    clear hB3 hB4 hb2
    go_wp2_with (go_at_call 71; refine (l00In_any most 0 1000 _).mono ?_; rw [HZ.out]; rintro e w' ⟨rfl, rfl⟩)
    refine (l01Plain_any lv w2).mono ?_
    rw [HP.out]
    rintro e w3 ⟨rfl, hb3⟩
    have hX3 := hX2.later hb3
    have HB3 := Lib.hid (HB2.out.trans (hb3.mono HB2.out.size))
    clear hb3 hX2
    go_wp2_with fail
    refine (l05Small_any b t x w3 hs (BAt.of_blk hX3)).mono ?_
    rw [HSM.out]
    rintro e w4 ⟨rfl, hb4⟩
    have hX4 := hX3.later hb4
    have HB4 := Lib.hid (HB3.out.trans (hb4.mono HB3.out.size))
    clear hb4 hX3
    go_wp2_with fail
    go_ret2
    exact ⟨by rw [HW.out]; rfl, HB4.out⟩
  have HW0 : Hid (untilB x.n (fb t) (fb lv) k most = uGo (fb t) (fb lv) k most.toNat 0 x.n) := by show _ = _; rw [untilB_go h0 (by rw [hz, hp, hsm]; rfl)]; rfl
  have hz2 := hz
  rw [Bool.and_eq_true] at hz2
  have z0 : 0 ≤ most := of_decide_eq_true hz2.1
  have z1 : most ≤ 1000 := of_decide_eq_true hz2.2
  have HZ : Hid ((decide (0 ≤ most) && decide (most ≤ 1000)) = true) := hz
  have HP := Lib.hid hp
  have HSM := Lib.hid hsm
  have k1 : (k : Int) < 64 := by omega
  clear h0 hz hok hh hp hsm hz2
  go_enter Try.func36, Try.ntmps36
  go_wp2_with (with_reducible refine wpList_box rfl ?_)
  intro b w1 hB1 hB2 hB3 hB4
  go_wp2_with fail
  refine (l05Asked_any b _ k x w1 hr hx hB3).mono ?_
  rw [H0.out]
  rintro e w2 ⟨rfl, hb2⟩
  have hX2 := hB3.later hb2
  have HB2 := Lib.hid (hB4.trans (hb2.mono hB4.size))
  have hb_ : w.heap.size ≤ b := hB1
  clear hB3 hB4 hb2
  go_wp2_with (go_at_call 71; refine (l00In_any most 0 1000 _).mono ?_; rw [HZ.out]; rintro e w' ⟨rfl, rfl⟩)
  refine (l01Plain_any lv w2).mono ?_
  rw [HP.out]
  rintro e w3 ⟨rfl, hb3⟩
  have hX3 := hX2.later hb3
  have HB3 := Lib.hid (HB2.out.trans (hb3.mono HB2.out.size))
  clear hb3 hX2
  go_wp2_with fail
  refine (l05Small_any b t x w3 hs (BAt.of_blk hX3)).mono ?_
  rw [HSM.out]
  rintro e w4 ⟨rfl, hb4⟩
  have hX4 := hX3.later hb4
  have HB4 := Lib.hid (HB3.out.trans (hb4.mono HB3.out.size))
  clear hb4 hX3
  go_wp2_with (first | ((with_reducible refine wpList_getB hX4 ?_ ?_); rfl) | (with_reducible refine wpList_new newB ?_))
  intro O wO hO1 hO2 hO3 hO4
  have HBO := Lib.hid (HB4.out.trans (hO4.mono HB4.out.size))
  go_wp2_with ((with_reducible refine wpList_putB (x := x) hO3 ?_ ?_ ?_); rfl; rfl)
  intro w5 s5 b5 k5
  have HX4 := Lib.hid b5
  have hwO : w.heap.size ≤ O := by have := HB4.out.size; omega
  have HB5 := Lib.hid (below_grown HBO.out k5 HBO.out.size hwO)
  have hOl : O < w5.heap.size := b5.lt
  clear hO3 hO4 k5 hX4 b5
  go_wp2_with fail
  go_loopw [14] (fun vk wr => UntilRel x (fb t) (fb lv) k most w5 O vk wr) (fun vk _ => 1 + most.toNat - (intOf vk).toNat)
  case atStart => exact ⟨0, x, by omega, rfl, rfl, rfl, rfl, HX4.out, grown_refl _ _, Nat.le_refl _⟩
  case round =>
    obtain ⟨j, y, hj, rfl, hgo, hgr, hroom, hY, hgrow, hsz⟩ := hrel
    have HGO := Lib.hid hgo
    have HG := Lib.hid hgrow
    have HY := Lib.hid hY
    have HGR := Lib.hid hgr
    have HRM := Lib.hid hroom
    have hsy : y.gr.Sane := by rw [hgr]; exact hs
    have hxy : y.gr.Fx := by rw [hgr]; exact hx
    have HSMY : Hid (smallB y.n (fb t) = true) := by
      show _ = _
      rw [smallB_same (n := x.n) (congrArg G.m hgr) hroom]; exact HSM.out
    have q2 := (BAt.of_blk hY).s hk
    have HBW := Lib.hid (below_grown HB5.out hgrow HB5.out.size hwO)
    clear hgo hgrow hY hgr hroom
    have jm : (j : Int) ≤ most := hj
    cases h1 : fgt (fb (y.s k)) (fb lv)
    rotate_left
    · have HF : Hid (fge (y.n.s k) (fb lv) = true) := by
        show fge (fm y.s k) _ = _; rw [fm_of hk]; unfold fge; rw [h1]; rfl
      have HW : Hid (untilB x.n (fb t) (fb lv) k most = ((j : Int), 0)) := by show _ = _; rw [HW0.out, ← HGO.out, uGo_yes HF.out]
      go_wp2_with fail
      go_ret2
      exact ⟨by rw [HW.out]; rfl, HBW.out⟩
    cases h2 : feq (fb (y.s k)) (fb lv)
    rotate_left
    · have HF : Hid (fge (y.n.s k) (fb lv) = true) := by
        show fge (fm y.s k) _ = _; rw [fm_of hk]; unfold fge; rw [h1, h2]; rfl
      have HW : Hid (untilB x.n (fb t) (fb lv) k most = ((j : Int), 0)) := by show _ = _; rw [HW0.out, ← HGO.out, uGo_yes HF.out]
      go_wp2_with fail
      go_ret2
      exact ⟨by rw [HW.out]; rfl, HBW.out⟩
    have HF : Hid (fge (y.n.s k) (fb lv) = false) := by
      show fge (fm y.s k) _ = _; rw [fm_of hk]; unfold fge; rw [h1, h2]; rfl
    by_cases hlt : (j : Int) = most
    · obtain rfl : most = j := hlt.symm
      have HW : Hid (untilB x.n (fb t) (fb lv) k j = (0, 7)) := by
        show _ = _
        rw [HW0.out, ← HGO.out, show ((j : Nat) : Int).toNat - j = 0 by omega, uGo_end HF.out]
      go_wp2_with fail
      go_ret2
      exact ⟨by rw [HW.out]; rfl, HBW.out⟩
    obtain ⟨f, hf⟩ : ∃ f, most.toNat - j = f + 1 := ⟨most.toNat - j - 1, by omega⟩
    have hf2 : most.toNat - (j + 1) = f := by omega
    have j2 : (j : Int) < most := by omega
    rw [hf] at HGO
    cases hok : okB (mvT y.n (fb t))
    · have HOKM := Lib.hid hok
      clear hok
      go_wp2_with fail
      refine (l05Move_any O t _ y wr hsy hxy HY.out).mono ?_
      rintro e w6 ⟨y', rfl, hn', hg', hb6⟩
      rw [HOKM.out]
      have HN' := Lib.hid hn'
      have HG6 := Lib.hid (grown_trans HG.out (grown_below hb6))
      have hY6 := HY.out.later hb6
      have hs6 := hb6.size
      clear hn' hb6 q2
      go_wp2_with (with_reducible refine wpList_new newB ?_)
      intro Q w7 hQ1 hQ2 hQ3 hQ4
      have hY7 := hY6.later hQ4
      have HG7 := Lib.hid (grown_trans HG6.out (grown_below hQ4))
      go_wp2_with ((with_reducible refine wpList_putB (x := y') hQ3 ?_ ?_ ?_); rfl; rfl)
      intro w8 s8 b8 k8
      have hYQ : O < Q := by have := hY6.lt; omega
      have hY8 := hY7.grown k8 (by omega)
      have hQ4s := hQ4.size
      have HG8 : Hid (w5.grownBy w8 (some O)) := grown_new HG7.out k8 (by omega)
      clear hQ3 hQ4 hY6 hY7 k8
      have HW : Hid (untilB x.n (fb t) (fb lv) k most = (0, 4)) := by
        show _ = _
        rw [HW0.out, ← HGO.out, uGo_bad HF.out HOKM.out]
      have HB8 := Lib.hid (below_grown HB5.out HG8.out HB5.out.size hwO)
      go_wp2_with fail
      go_ret2
      exact ⟨by rw [HW.out]; rfl, HB8.out⟩
    · have HOKM := Lib.hid hok
      clear hok
      go_wp2_with fail
      refine (l05Move_any O t _ y wr hsy hxy HY.out).mono ?_
      rintro e w6 ⟨y', rfl, hn', hg', hb6⟩
      rw [HOKM.out]
      have HN' := Lib.hid hn'
      have HG6 := Lib.hid (grown_trans HG.out (grown_below hb6))
      have hY6 := HY.out.later hb6
      have hs6 := hb6.size
      clear hn' hb6 q2
      go_wp2_with (with_reducible refine wpList_new newB ?_)
      intro Q w7 hQ1 hQ2 hQ3 hQ4
      have hY7 := hY6.later hQ4
      have HG7 := Lib.hid (grown_trans HG6.out (grown_below hQ4))
      go_wp2_with ((with_reducible refine wpList_putB (x := y') hQ3 ?_ ?_ ?_); rfl; rfl)
      intro w8 s8 b8 k8
      have hYQ : O < Q := by have := hY6.lt; omega
      have hY8 := hY7.grown k8 (by omega)
      have hQ4s := hQ4.size
      have HG8 : Hid (w5.grownBy w8 (some O)) := grown_new HG7.out k8 (by omega)
      clear hQ3 hQ4 hY6 hY7 k8
      go_wp2_with (first | ((with_reducible refine wpList_getB b8 ?_ ?_); rfl) | ((with_reducible refine wpList_putB (x := y') hY8 ?_ ?_ ?_); rfl; rfl))
      intro w9 s9 b9 k9
      have H9 := Lib.hid b9
      have HG9 := Lib.hid (grown_trans HG8.out k9)
      have hg2 : y'.gr = x.gr := hg'.trans HGR.out
      have HGO2 : Hid (uGo (fb t) (fb lv) k (most.toNat - (j + 1)) (j + 1) y'.n = uGo (fb t) (fb lv) k most.toNat 0 x.n) := by
        show _ = _; rw [hf2, HN'.out, ← uGo_more HF.out HOKM.out]; exact HGO.out
      have hrm2 : Hid (y'.n.room = x.n.room) := by show _ = _; rw [HN'.out]; exact HRM.out
      clear hg' b9 k9 b8 hY8
      go_wp2_with fail
      go_roundw
      case rel => exact ⟨j + 1, y', by omega, by go_num, HGO2.out, hg2, hrm2.out, H9.out, HG9.out, by omega⟩
      case measure => simp [intOf]; omega

end Go.Proofs.Ytfddjbpfahjleaa
