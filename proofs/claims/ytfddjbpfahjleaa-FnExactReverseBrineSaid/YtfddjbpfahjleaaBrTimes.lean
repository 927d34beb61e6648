/- A brine behind many steps: both sides. -/
import Derived.Test.YtfddjbpfahjleaaBrMove
namespace Go.Proofs.Ytfddjbpfahjleaa
open Go.RowKit

/-- The brine behind so many steps, if all on the way are valid. -/
def mvRun (n : N) (t : F) : Nat → Option N
  | 0 => some n
  | k + 1 => match mvRun n t k with
    | none => none
    | some m => if okB (mvT m t) then some (mvT m t) else none
theorem mvRun_yes {n m : N} {t : F} {k : Nat} (h : mvRun n t k = some m) (ho : okB (mvT m t) = true) : mvRun n t (k + 1) = some (mvT m t) := by
  show (match mvRun n t k with | none => none | some m => if okB (mvT m t) then some (mvT m t) else none) = _
  rw [h]; show (if _ then _ else _) = _; rw [ho]; rfl
theorem mvRun_no {n m : N} {t : F} {k : Nat} (h : mvRun n t k = some m) (ho : okB (mvT m t) = false) : mvRun n t (k + 1) = none := by
  show (match mvRun n t k with | none => none | some m => if okB (mvT m t) then some (mvT m t) else none) = _
  rw [h]; show (if _ then _ else _) = _; rw [ho]; rfl
theorem mvRun_none {n : N} {t : F} {k : Nat} (h : mvRun n t k = none) : ∀ j, k ≤ j → mvRun n t j = none := by
  intro j hj
  induction j with
  | zero => have : k = 0 := by omega
            subst this; exact h
  | succ j ih =>
    by_cases e : k = j + 1
    · subst e; exact h
    · show (match mvRun n t j with | none => none | some m => if okB (mvT m t) then some (mvT m t) else none) = _
      rw [ih (by omega)]
theorem mvRun_same {n : N} {t : F} : ∀ {k : Nat} {m : N}, mvRun n t k = some m → m.g = n.g ∧ m.room = n.room
  | 0, m, h => by cases h; exact ⟨rfl, rfl⟩
  | k + 1, m, h => by
    cases hk : mvRun n t k with
    | none => rw [mvRun_none hk (k + 1) (by omega)] at h; cases h
    | some q =>
      obtain ⟨h1, h2⟩ := mvRun_same hk
      cases ho : okB (mvT q t)
      · rw [mvRun_no hk ho] at h; cases h
      · rw [mvRun_yes hk ho] at h; cases h
        exact ⟨h1, h2⟩
theorem smallB_same {n m : N} {t : F} (hg : m.g = n.g) (hr : m.room = n.room) : smallB m t = smallB n t := by
  unfold smallB smallTo partF
  rw [hg, hr]
def timesR (n : N) (t : F) (z : Int) : N × Int :=
  if okB n then (if decide (0 ≤ z) && decide (z ≤ 1000) && smallB n t then (match mvRun n t z.toNat with | none => (B0.n, 4) | some m => (m, 0)) else (B0.n, 2)) else (B0.n, 1)
def stepR (n : N) (t : F) : N × Int := if okB n then mvR n t else (B0.n, 1)
theorem times_one (n : N) (t : F) : timesR n t 1 = stepR n t := by
  unfold timesR stepR mvR
  cases okB n
  · rfl
  · cases smallB n t
    · rfl
    · simp only [show (decide ((0 : Int) ≤ 1) && decide ((1 : Int) ≤ 1000) && true) = true from by decide, if_true, show Int.toNat 1 = 1 from rfl]
      cases ho : okB (mvT n t)
      · rw [mvRun_no (k := 0) rfl ho]; rfl
      · rw [mvRun_yes (k := 0) rfl ho]; rfl

/-- A brine and a code are handed back. -/
def RetBC' (r : N × Int) (w : World) (e : Ending) (w' : World) : Prop :=
  ∃ y : Br, e = .returned (.tuple #[.agg (arrB y), .int .i64 r.2]) ∧ y.n = r.1 ∧ Below w.heap.size w w'

/-- The brine so far lies in a block. -/
def RunRel (x : Br) (t : F) (most : Int) (w : World) (O : Nat) (v : Value) (wr : World) : Prop :=
  ∃ (k : Nat) (y : Br), (k : Int) ≤ most ∧ v = .int .i64 k ∧ mvRun x.n t k = some y.n ∧ y.gr = x.gr ∧ Blk wr O (arrB y) 36 ∧ w.grownBy wr (some O) ∧ w.heap.size ≤ wr.heap.size

/-- What grows in a block that is newer than the world at the start is new memory. -/
theorem grown_new {w w' w'' : World} {o q : Nat} (h : w.grownBy w' (some o)) (h' : w'.grownBy w'' (some q)) (hq : w.heap.size ≤ q) : w.grownBy w'' (some o) :=
  ⟨h'.os.trans h.os, h'.tape.trans h.tape, h'.output.trans h.output, Nat.le_trans h.size h'.size, fun k hk hne => (h'.block k (Nat.lt_of_lt_of_le hk h.size) (by simp; omega)).trans (h.block k hk hne)⟩

set_option maxHeartbeats 400000 in
theorem isTimes_any (z : Int) (w : World) : Calls Try.prog 73 #[.int .i64 z] w fun e w' => e = .returned (.bool (decide (0 ≤ z) && decide (z ≤ 1000))) ∧ w = w' := by
  go_enter Try.func73, Try.ntmps73
  go_wp2_with (go_at_call 93; refine (in_any z 0 1000 _).mono ?_; rintro e w' ⟨rfl, rfl⟩)
  go_ret
  exact ⟨rfl, rfl⟩

set_option maxRecDepth 100000 in
set_option maxHeartbeats 3200000 in
theorem MoveTimes_any (x : Br) (t : Nat) (z : Int) (w : World) (hr : x.gr.Rng) (hx : x.gr.Fx) :
    Calls Try.prog 41 #[.agg (arrB x), .float .f32 t, .int .i64 z] w (RetBC' (timesR x.n (fb t) z) w) := by
  cases hok : okB x.n
  · have HW : Hid (timesR x.n (fb t) z = (B0.n, 1)) := by show _ = _; unfold timesR; rw [hok]; rfl
    have HOK := Lib.hid hok
    clear hok
    go_enter Try.func41, Try.ntmps41
    go_wp2_with (with_reducible refine wpList_box rfl ?_)
    intro b w1 hB1 hB2 hB3 hB4
    go_wp2_with (with_reducible refine wpList_new newB ?_)
    intro R w2 hR1 hR2 hR3 hR4
    have hX2 := hB3.later hR4
    have hbR : b < R := by have := hB4.size; omega
    have HB2 := Lib.hid (hB4.trans (hR4.mono hB4.size))
    have hwR : w.heap.size ≤ R := by have := hB4.size; omega
    clear hB3 hB4 hR4
    go_wp2_with ((with_reducible refine wpList_getB hX2 ?_ ?_); rfl)
    refine (ValidBrine_any x w2 hr hx).mono ?_
    rw [HOK.out]
    rintro e w3 ⟨rfl, hb3⟩
    have hX3 := hX2.later hb3
    have hR3' := hR3.later hb3
    have HB3 := Lib.hid (HB2.out.trans (hb3.mono HB2.out.size))
    clear hb3 hX2 hR3
    go_wp2_with (first | (with_reducible refine wpList_zero (zeroB _) ?_) | ((with_reducible refine wpList_putB (x := B0) hR3' ?_ ?_ ?_); rfl; rfl))
    intro w20 s20 b20 k20
    go_wp2_with fail
    refine ret_cell2 rfl rfl (loadB b20) rfl ⟨B0, by rw [HW.out]; rfl, by rw [HW.out], ?_⟩
    exact below_grown HB3.out k20 HB3.out.size hwR
  have hs := sane_of (okB_g hok) hx
  cases hz : decide (0 ≤ z) && decide (z ≤ 1000)
  · have HW : Hid (timesR x.n (fb t) z = (B0.n, 2)) := by show _ = _; unfold timesR; rw [hok, hz]; rfl
    have HOK := Lib.hid hok
    have HZ : Hid ((decide (0 ≤ z) && decide (z ≤ 1000)) = false) := hz
    clear hok hz
    go_enter Try.func41, Try.ntmps41
    go_wp2_with (with_reducible refine wpList_box rfl ?_)
    intro b w1 hB1 hB2 hB3 hB4
    go_wp2_with (with_reducible refine wpList_new newB ?_)
    intro R w2 hR1 hR2 hR3 hR4
    have hX2 := hB3.later hR4
    have hbR : b < R := by have := hB4.size; omega
    have HB2 := Lib.hid (hB4.trans (hR4.mono hB4.size))
    have hwR : w.heap.size ≤ R := by have := hB4.size; omega
    clear hB3 hB4 hR4
    go_wp2_with ((with_reducible refine wpList_getB hX2 ?_ ?_); rfl)
    refine (ValidBrine_any x w2 hr hx).mono ?_
    rw [HOK.out]
    rintro e w3 ⟨rfl, hb3⟩
    have hX3 := hX2.later hb3
    have hR3' := hR3.later hb3
    have HB3 := Lib.hid (HB2.out.trans (hb3.mono HB2.out.size))
    clear hb3 hX2 hR3
    go_wp2_with (first | (go_at_call 73; refine (isTimes_any z _).mono ?_; rw [HZ.out]; rintro e w' ⟨rfl, rfl⟩) | (with_reducible refine wpList_zero (zeroB _) ?_) | ((with_reducible refine wpList_putB (x := B0) hR3' ?_ ?_ ?_); rfl; rfl))
    intro w20 s20 b20 k20
    go_wp2_with fail
    refine ret_cell2 rfl rfl (loadB b20) rfl ⟨B0, by rw [HW.out]; rfl, by rw [HW.out], ?_⟩
    exact below_grown HB3.out k20 HB3.out.size hwR
  cases hsm : smallB x.n (fb t)
  · have HW : Hid (timesR x.n (fb t) z = (B0.n, 2)) := by show _ = _; unfold timesR; rw [hok, hz, hsm]; rfl
    have HOK := Lib.hid hok
    have HSM := Lib.hid hsm
    have HZ : Hid ((decide (0 ≤ z) && decide (z ≤ 1000)) = true) := hz
    clear hok hz hsm
    go_enter Try.func41, Try.ntmps41
    go_wp2_with (with_reducible refine wpList_box rfl ?_)
    intro b w1 hB1 hB2 hB3 hB4
    go_wp2_with (with_reducible refine wpList_new newB ?_)
    intro R w2 hR1 hR2 hR3 hR4
    have hX2 := hB3.later hR4
    have hbR : b < R := by have := hB4.size; omega
    have HB2 := Lib.hid (hB4.trans (hR4.mono hB4.size))
    have hwR : w.heap.size ≤ R := by have := hB4.size; omega
    clear hB3 hB4 hR4
    go_wp2_with ((with_reducible refine wpList_getB hX2 ?_ ?_); rfl)
    refine (ValidBrine_any x w2 hr hx).mono ?_
    rw [HOK.out]
    rintro e w3 ⟨rfl, hb3⟩
    have hX3 := hX2.later hb3
    have hR3' := hR3.later hb3
    have HB3 := Lib.hid (HB2.out.trans (hb3.mono HB2.out.size))
    clear hb3 hX2 hR3
    go_wp2_with (go_at_call 73; refine (isTimes_any z _).mono ?_; rw [HZ.out]; rintro e w' ⟨rfl, rfl⟩)
    refine (small_any b t x w3 hs (BAt.of_blk hX3)).mono ?_
    rw [HSM.out]
    rintro e w4 ⟨rfl, hb4⟩
    have hX4 := hX3.later hb4
    have hR4 := hR3'.later hb4
    have HB4 := Lib.hid (HB3.out.trans (hb4.mono HB3.out.size))
    clear hb4 hX3 hR3'
    go_wp2_with (first | (with_reducible refine wpList_zero (zeroB _) ?_) | ((with_reducible refine wpList_putB (x := B0) hR4 ?_ ?_ ?_); rfl; rfl))
    intro w20 s20 b20 k20
    go_wp2_with fail
    refine ret_cell2 rfl rfl (loadB b20) rfl ⟨B0, by rw [HW.out]; rfl, by rw [HW.out], ?_⟩
    exact below_grown HB4.out k20 HB4.out.size hwR
  have HW0 : Hid (timesR x.n (fb t) z = (match mvRun x.n (fb t) z.toNat with | none => (B0.n, 4) | some m => (m, 0))) := by show _ = _; unfold timesR; rw [hok, hz, hsm]; rfl
  have hz2 := hz
  rw [Bool.and_eq_true] at hz2
  have z0 : 0 ≤ z := of_decide_eq_true hz2.1
  have z1 : z ≤ 1000 := of_decide_eq_true hz2.2
  have HOK := Lib.hid hok
  have HSM := Lib.hid hsm
  have HZ : Hid ((decide (0 ≤ z) && decide (z ≤ 1000)) = true) := hz
  clear hok hz hsm hz2
  go_enter Try.func41, Try.ntmps41
  go_wp2_with (with_reducible refine wpList_box rfl ?_)
  intro b w1 hB1 hB2 hB3 hB4
  go_wp2_with (with_reducible refine wpList_new newB ?_)
  intro R w2 hR1 hR2 hR3 hR4
  have hX2 := hB3.later hR4
  have hbR : b < R := by have := hB4.size; omega
  have HB2 := Lib.hid (hB4.trans (hR4.mono hB4.size))
  have hwR : w.heap.size ≤ R := by have := hB4.size; omega
  clear hB3 hB4 hR4
  go_wp2_with ((with_reducible refine wpList_getB hX2 ?_ ?_); rfl)
  refine (ValidBrine_any x w2 hr hx).mono ?_
  rw [HOK.out]
  rintro e w3 ⟨rfl, hb3⟩
  have hX3 := hX2.later hb3
  have hR3' := hR3.later hb3
  have HB3 := Lib.hid (HB2.out.trans (hb3.mono HB2.out.size))
  clear hb3 hX2 hR3
  go_wp2_with (go_at_call 73; refine (isTimes_any z _).mono ?_; rw [HZ.out]; rintro e w' ⟨rfl, rfl⟩)
  refine (small_any b t x w3 hs (BAt.of_blk hX3)).mono ?_
  rw [HSM.out]
  rintro e w4 ⟨rfl, hb4⟩
  have hX4 := hX3.later hb4
  have hR4 := hR3'.later hb4
  have HB4 := Lib.hid (HB3.out.trans (hb4.mono HB3.out.size))
  clear hb4 hX3 hR3'
  have HR4 := Lib.hid hR4
  have HX4 := Lib.hid hX4
  have hRl : R < w4.heap.size := hR4.lt
  have hbl : b < w4.heap.size := hX4.lt
  clear hR4 hX4
  go_wp2_with fail
  go_loopw [26] (fun v26 wr => RunRel x (fb t) z w4 b v26 wr) (fun v26 _ => z.toNat - (intOf v26).toNat)
  case atStart => exact ⟨0, x, by omega, rfl, rfl, rfl, HX4.out, grown_refl _ _, Nat.le_refl _⟩
  case round =>
    obtain ⟨k, y, hk, rfl, hrun, hgr, hY, hgrow, hsz⟩ := hrel
    have HRUN := Lib.hid hrun
    have HG := Lib.hid hgrow
    have HY := Lib.hid hY
    have HGR := Lib.hid hgr
    have hsy : y.gr.Sane := by rw [hgr]; exact hs
    have hxy : y.gr.Fx := by rw [hgr]; exact hx
    have HR := Lib.hid (HR4.out.grown hgrow (by omega))
    have HSMY : Hid (smallB y.n (fb t) = true) := by
      show _ = _
      rw [smallB_same (mvRun_same hrun).1 (mvRun_same hrun).2]; exact HSM.out
    clear hrun hgrow hY hgr
    by_cases hlt : (k : Int) < z
    · cases hok : okB (mvT y.n (fb t))
      · have HMV : Hid (mvR y.n (fb t) = (B0.n, 4)) := by show _ = _; unfold mvR; rw [HSMY.out, hok]; rfl
        have HRN := Lib.hid (mvRun_no HRUN.out hok)
        clear hok
        go_wp2_with fail
        refine (moved_any b t _ y wr hsy hxy HY.out).mono ?_
        rw [HMV.out]
        rintro e w5 ⟨y', rfl, hn', hg', hb5⟩
        have HN' := Lib.hid hn'
        have HG5 := Lib.hid (grown_trans HG.out (grown_below hb5))
        have hY5 := HY.out.later hb5
        have hR5 := HR.out.later hb5
        have hs5 := hb5.size
        have hb5' := hb5
        clear hn' hb5
        go_wp2_with (with_reducible refine wpList_new newB ?_)
        intro Q w6 hQ1 hQ2 hQ3 hQ4
        have hY6 := hY5.later hQ4
        have hR6 := hR5.later hQ4
        have HG6 := Lib.hid (grown_trans HG5.out (grown_below hQ4))
        go_wp2_with ((with_reducible refine wpList_putB (x := y') hQ3 ?_ ?_ ?_); rfl; rfl)
        intro w7 s7 b7 k7
        have hYQ : b < Q := by have := hY5.lt; omega
        have hRQ : R < Q := by have := hR5.lt; omega
        have hY7 := hY6.grown k7 (by omega)
        have hR7 := hR6.grown k7 (by omega)
        have hQ4s := hQ4.size
        have HG7 : Hid (w4.grownBy w7 (some b)) := grown_new HG6.out k7 (by omega)
        clear hQ3 hQ4 hY5 hR5 hY6 hR6 k7
        have HW : Hid (timesR x.n (fb t) z = (B0.n, 4)) := by
          show _ = _
          rw [HW0.out, mvRun_none HRN.out z.toNat (by omega)]
        have HB7 := Lib.hid (below_grown HB4.out HG7.out HB4.out.size hB1)
        clear hb5' hg'
        go_wp2_with (first | (with_reducible refine wpList_zero (zeroB _) ?_) | ((with_reducible refine wpList_putB (x := B0) hR7 ?_ ?_ ?_); rfl; rfl))
        intro w20 s20 b20 k20
        go_wp2_with fail
        refine ret_cell2 rfl rfl (loadB b20) rfl ⟨B0, by rw [HW.out]; rfl, by rw [HW.out], ?_⟩
        exact below_grown HB7.out k20 HB7.out.size hwR
      · have HMV : Hid (mvR y.n (fb t) = (mvT y.n (fb t), 0)) := by show _ = _; unfold mvR; rw [HSMY.out, hok]; rfl
        have HRN := Lib.hid (mvRun_yes HRUN.out hok)
        clear hok
        go_wp2_with fail
        refine (moved_any b t _ y wr hsy hxy HY.out).mono ?_
        rw [HMV.out]
        rintro e w5 ⟨y', rfl, hn', hg', hb5⟩
        have HN' := Lib.hid hn'
        have HG5 := Lib.hid (grown_trans HG.out (grown_below hb5))
        have hY5 := HY.out.later hb5
        have hR5 := HR.out.later hb5
        have hs5 := hb5.size
        have hb5' := hb5
        clear hn' hb5
        go_wp2_with (with_reducible refine wpList_new newB ?_)
        intro Q w6 hQ1 hQ2 hQ3 hQ4
        have hY6 := hY5.later hQ4
        have hR6 := hR5.later hQ4
        have HG6 := Lib.hid (grown_trans HG5.out (grown_below hQ4))
        go_wp2_with ((with_reducible refine wpList_putB (x := y') hQ3 ?_ ?_ ?_); rfl; rfl)
        intro w7 s7 b7 k7
        have hYQ : b < Q := by have := hY5.lt; omega
        have hRQ : R < Q := by have := hR5.lt; omega
        have hY7 := hY6.grown k7 (by omega)
        have hR7 := hR6.grown k7 (by omega)
        have hQ4s := hQ4.size
        have HG7 : Hid (w4.grownBy w7 (some b)) := grown_new HG6.out k7 (by omega)
        clear hQ3 hQ4 hY5 hR5 hY6 hR6 k7
        go_wp2_with (first | ((with_reducible refine wpList_getB b7 ?_ ?_); rfl) | ((with_reducible refine wpList_putB (x := y') hY7 ?_ ?_ ?_); rfl; rfl))
        intro w8 s8 b8 k8
        have H8 := Lib.hid b8
        have HG8 := Lib.hid (grown_trans HG7.out k8)
        have hg2 : y'.gr = x.gr := (hg' (by trivial)).trans HGR.out
        clear hb5' hg' b8 k8 b7 hY7 hR7
        go_wp2_with fail
        go_roundw
        case rel => exact ⟨k + 1, y', by omega, by go_num, by rw [HRN.out, HN'.out], hg2, H8.out, HG8.out, by omega⟩
        case measure => simp [intOf]; omega
    · obtain rfl : z = k := by omega
      have HW : Hid (timesR x.n (fb t) k = (y.n, 0)) := by
        show _ = _
        rw [HW0.out, show ((k : Nat) : Int).toNat = k from Int.toNat_natCast k, HRUN.out]
      have HBw := Lib.hid (below_grown HB4.out HG.out HB4.out.size hB1)
      have hRw := HR.out
      go_wp2_with (first | ((with_reducible refine wpList_getB HY.out ?_ ?_); rfl) | ((with_reducible refine wpList_putB (x := y) hRw ?_ ?_ ?_); rfl; rfl))
      intro w20 s20 b20 k20
      go_wp2_with fail
      refine ret_cell2 rfl rfl (loadB b20) rfl ⟨y, by rw [HW.out]; rfl, by rw [HW.out], ?_⟩
      exact below_grown HBw.out k20 HBw.out.size hwR

set_option maxRecDepth 100000 in
set_option maxHeartbeats 3200000 in
theorem specMoveTimes_any (x : Br) (t : Nat) (z : Int) (w : World) (hr : x.gr.Rng) (hx : x.gr.Fx) :
    Calls Try.prog 40 #[.agg (arrB x), .float .f32 t, .int .i64 z] w (RetBC' (timesR x.n (fb t) z) w) := by
  cases hok : okB x.n
  · have HW : Hid (timesR x.n (fb t) z = (B0.n, 1)) := by show _ = _; unfold timesR; rw [hok]; rfl
    have HOK := Lib.hid hok
    clear hok
    go_enter Try.func40, Try.ntmps40
    go_wp2_with (with_reducible refine wpList_box rfl ?_)
    intro b w1 hB1 hB2 hB3 hB4
    go_wp2_with (with_reducible refine wpList_new newB ?_)
    intro R w2 hR1 hR2 hR3 hR4
    have hX2 := hB3.later hR4
    have hbR : b < R := by have := hB4.size; omega
    have HB2 := Lib.hid (hB4.trans (hR4.mono hB4.size))
    have hwR : w.heap.size ≤ R := by have := hB4.size; omega
    clear hB3 hB4 hR4
    go_wp2_with fail
    refine (l05Ok_any b x w2 hr hx (BAt.of_blk hX2)).mono ?_
    rw [HOK.out]
    rintro e w3 ⟨rfl, hb3⟩
    have hX3 := hX2.later hb3
    have hR3' := hR3.later hb3
    have HB3 := Lib.hid (HB2.out.trans (hb3.mono HB2.out.size))
    clear hb3 hX2 hR3
    go_wp2_with (first | (with_reducible refine wpList_zero (zeroB _) ?_) | ((with_reducible refine wpList_putB (x := B0) hR3' ?_ ?_ ?_); rfl; rfl))
    intro w20 s20 b20 k20
    go_wp2_with fail
    refine ret_cell2 rfl rfl (loadB b20) rfl ⟨B0, by rw [HW.out]; rfl, by rw [HW.out], ?_⟩
    exact below_grown HB3.out k20 HB3.out.size hwR
  have hs := sane_of (okB_g hok) hx
  cases hz : decide (0 ≤ z) && decide (z ≤ 1000)
  · have HW : Hid (timesR x.n (fb t) z = (B0.n, 2)) := by show _ = _; unfold timesR; rw [hok, hz]; rfl
    have HOK := Lib.hid hok
    have HZ : Hid ((decide (0 ≤ z) && decide (z ≤ 1000)) = false) := hz
    clear hok hz
    go_enter Try.func40, Try.ntmps40
    go_wp2_with (with_reducible refine wpList_box rfl ?_)
    intro b w1 hB1 hB2 hB3 hB4
    go_wp2_with (with_reducible refine wpList_new newB ?_)
    intro R w2 hR1 hR2 hR3 hR4
    have hX2 := hB3.later hR4
    have hbR : b < R := by have := hB4.size; omega
    have HB2 := Lib.hid (hB4.trans (hR4.mono hB4.size))
    have hwR : w.heap.size ≤ R := by have := hB4.size; omega
    clear hB3 hB4 hR4
    go_wp2_with fail
    refine (l05Ok_any b x w2 hr hx (BAt.of_blk hX2)).mono ?_
    rw [HOK.out]
    rintro e w3 ⟨rfl, hb3⟩
    have hX3 := hX2.later hb3
    have hR3' := hR3.later hb3
    have HB3 := Lib.hid (HB2.out.trans (hb3.mono HB2.out.size))
    clear hb3 hX2 hR3
    go_wp2_with (first | (go_at_call 71; refine (l00In_any z 0 1000 _).mono ?_; rw [HZ.out]; rintro e w' ⟨rfl, rfl⟩) | (with_reducible refine wpList_zero (zeroB _) ?_) | ((with_reducible refine wpList_putB (x := B0) hR3' ?_ ?_ ?_); rfl; rfl))
    intro w20 s20 b20 k20
    go_wp2_with fail
    refine ret_cell2 rfl rfl (loadB b20) rfl ⟨B0, by rw [HW.out]; rfl, by rw [HW.out], ?_⟩
    exact below_grown HB3.out k20 HB3.out.size hwR
  cases hsm : smallB x.n (fb t)
  · have HW : Hid (timesR x.n (fb t) z = (B0.n, 2)) := by show _ = _; unfold timesR; rw [hok, hz, hsm]; rfl
    have HOK := Lib.hid hok
    have HSM := Lib.hid hsm
    have HZ : Hid ((decide (0 ≤ z) && decide (z ≤ 1000)) = true) := hz
    clear hok hz hsm
    go_enter Try.func40, Try.ntmps40
    go_wp2_with (with_reducible refine wpList_box rfl ?_)
    intro b w1 hB1 hB2 hB3 hB4
    go_wp2_with (with_reducible refine wpList_new newB ?_)
    intro R w2 hR1 hR2 hR3 hR4
    have hX2 := hB3.later hR4
    have hbR : b < R := by have := hB4.size; omega
    have HB2 := Lib.hid (hB4.trans (hR4.mono hB4.size))
    have hwR : w.heap.size ≤ R := by have := hB4.size; omega
    clear hB3 hB4 hR4
    go_wp2_with fail
    refine (l05Ok_any b x w2 hr hx (BAt.of_blk hX2)).mono ?_
    rw [HOK.out]
    rintro e w3 ⟨rfl, hb3⟩
    have hX3 := hX2.later hb3
    have hR3' := hR3.later hb3
    have HB3 := Lib.hid (HB2.out.trans (hb3.mono HB2.out.size))
    clear hb3 hX2 hR3
    go_wp2_with (go_at_call 71; refine (l00In_any z 0 1000 _).mono ?_; rw [HZ.out]; rintro e w' ⟨rfl, rfl⟩)
    refine (l05Small_any b t x w3 hs (BAt.of_blk hX3)).mono ?_
    rw [HSM.out]
    rintro e w4 ⟨rfl, hb4⟩
    have hX4 := hX3.later hb4
    have hR4 := hR3'.later hb4
    have HB4 := Lib.hid (HB3.out.trans (hb4.mono HB3.out.size))
    clear hb4 hX3 hR3'
    go_wp2_with (first | (with_reducible refine wpList_zero (zeroB _) ?_) | ((with_reducible refine wpList_putB (x := B0) hR4 ?_ ?_ ?_); rfl; rfl))
    intro w20 s20 b20 k20
    go_wp2_with fail
    refine ret_cell2 rfl rfl (loadB b20) rfl ⟨B0, by rw [HW.out]; rfl, by rw [HW.out], ?_⟩
    exact below_grown HB4.out k20 HB4.out.size hwR
  have HW0 : Hid (timesR x.n (fb t) z = (match mvRun x.n (fb t) z.toNat with | none => (B0.n, 4) | some m => (m, 0))) := by show _ = _; unfold timesR; rw [hok, hz, hsm]; rfl
  have hz2 := hz
  rw [Bool.and_eq_true] at hz2
  have z0 : 0 ≤ z := of_decide_eq_true hz2.1
  have z1 : z ≤ 1000 := of_decide_eq_true hz2.2
  have HOK := Lib.hid hok
  have HSM := Lib.hid hsm
  have HZ : Hid ((decide (0 ≤ z) && decide (z ≤ 1000)) = true) := hz
  clear hok hz hsm hz2
  go_enter Try.func40, Try.ntmps40
  go_wp2_with (with_reducible refine wpList_box rfl ?_)
  intro b w1 hB1 hB2 hB3 hB4
  go_wp2_with (with_reducible refine wpList_new newB ?_)
  intro R w2 hR1 hR2 hR3 hR4
  have hX2 := hB3.later hR4
  have hbR : b < R := by have := hB4.size; omega
  have HB2 := Lib.hid (hB4.trans (hR4.mono hB4.size))
  have hwR : w.heap.size ≤ R := by have := hB4.size; omega
  clear hB3 hB4 hR4
  go_wp2_with fail
  refine (l05Ok_any b x w2 hr hx (BAt.of_blk hX2)).mono ?_
  rw [HOK.out]
  rintro e w3 ⟨rfl, hb3⟩
  have hX3 := hX2.later hb3
  have hR3' := hR3.later hb3
  have HB3 := Lib.hid (HB2.out.trans (hb3.mono HB2.out.size))
  clear hb3 hX2 hR3
  go_wp2_with (go_at_call 71; refine (l00In_any z 0 1000 _).mono ?_; rw [HZ.out]; rintro e w' ⟨rfl, rfl⟩)
  refine (l05Small_any b t x w3 hs (BAt.of_blk hX3)).mono ?_
  rw [HSM.out]
  rintro e w4 ⟨rfl, hb4⟩
  have hX4 := hX3.later hb4
  have hR4 := hR3'.later hb4
  have HB4 := Lib.hid (HB3.out.trans (hb4.mono HB3.out.size))
  clear hb4 hX3 hR3'
  go_wp2_with (first | ((with_reducible refine wpList_getB hX4 ?_ ?_); rfl) | (with_reducible refine wpList_new newB ?_))
  intro O wO hO1 hO2 hO3 hO4
  have hRO := hR4.later hO4
  have HBO := Lib.hid (HB4.out.trans (hO4.mono HB4.out.size))
  have hRO' : R < O := by have := hR4.lt; omega
  go_wp2_with ((with_reducible refine wpList_putB (x := x) hO3 ?_ ?_ ?_); rfl; rfl)
  intro w5 s5 b5 k5
  have HR5 := Lib.hid (hRO.grown k5 (by omega))
  have HO5 := Lib.hid b5
  have hwO : w.heap.size ≤ O := by have := HB4.out.size; omega
  have HB5 := Lib.hid (below_grown HBO.out k5 HBO.out.size hwO)
  have hRl : R < w5.heap.size := HR5.out.lt
  have hOl : O < w5.heap.size := b5.lt
  clear hO3 hO4 hRO k5 hX4 hR4 b5
  go_wp2_with fail
  go_loopw [9] (fun v9 wr => RunRel x (fb t) z w5 O v9 wr) (fun v9 _ => z.toNat - (intOf v9).toNat)
  case atStart => exact ⟨0, x, by omega, rfl, rfl, rfl, HO5.out, grown_refl _ _, Nat.le_refl _⟩
  case round =>
    obtain ⟨k, y, hk, rfl, hrun, hgr, hY, hgrow, hsz⟩ := hrel
    have HRUN := Lib.hid hrun
    have HG := Lib.hid hgrow
    have HY := Lib.hid hY
    have HGR := Lib.hid hgr
    have hsy : y.gr.Sane := by rw [hgr]; exact hs
    have hxy : y.gr.Fx := by rw [hgr]; exact hx
    have HR := Lib.hid (HR5.out.grown hgrow (by omega))
    clear hrun hgrow hY hgr
    by_cases hlt : (k : Int) < z
    · cases hok : okB (mvT y.n (fb t))
      · have HOKM := Lib.hid hok
        have HRN := Lib.hid (mvRun_no HRUN.out hok)
        clear hok
        go_wp2_with fail
        refine (l05Move_any O t _ y wr hsy hxy HY.out).mono ?_
        rintro e w6 ⟨y', rfl, hn', hg', hb6⟩
        rw [HOKM.out]
        have HN' := Lib.hid hn'
        have HG6 := Lib.hid (grown_trans HG.out (grown_below hb6))
        have hY6 := HY.out.later hb6
        have hR6 := HR.out.later hb6
        have hs6 := hb6.size
        clear hn' hb6
        go_wp2_with (with_reducible refine wpList_new newB ?_)
        intro Q w7 hQ1 hQ2 hQ3 hQ4
        have hY7 := hY6.later hQ4
        have hR7 := hR6.later hQ4
        have HG7 := Lib.hid (grown_trans HG6.out (grown_below hQ4))
        go_wp2_with ((with_reducible refine wpList_putB (x := y') hQ3 ?_ ?_ ?_); rfl; rfl)
        intro w8 s8 b8 k8
        have hYQ : O < Q := by have := hY6.lt; omega
        have hRQ : R < Q := by have := hR6.lt; omega
        have hY8 := hY7.grown k8 (by omega)
        have hR8 := hR7.grown k8 (by omega)
        have hQ4s := hQ4.size
        have HG8 : Hid (w5.grownBy w8 (some O)) := grown_new HG7.out k8 (by omega)
        clear hQ3 hQ4 hY6 hR6 hY7 hR7 k8
        have HW : Hid (timesR x.n (fb t) z = (B0.n, 4)) := by
          show _ = _
          rw [HW0.out, mvRun_none HRN.out z.toNat (by omega)]
        have HB8 := Lib.hid (below_grown HB5.out HG8.out HB5.out.size hwO)
        go_wp2_with (first | (with_reducible refine wpList_zero (zeroB _) ?_) | ((with_reducible refine wpList_putB (x := B0) hR8 ?_ ?_ ?_); rfl; rfl))
        intro w20 s20 b20 k20
        go_wp2_with fail
        refine ret_cell2 rfl rfl (loadB b20) rfl ⟨B0, by rw [HW.out]; rfl, by rw [HW.out], ?_⟩
        exact below_grown HB8.out k20 HB8.out.size hwR
      · have HOKM := Lib.hid hok
        have HRN := Lib.hid (mvRun_yes HRUN.out hok)
        clear hok
        go_wp2_with fail
        refine (l05Move_any O t _ y wr hsy hxy HY.out).mono ?_
        rintro e w6 ⟨y', rfl, hn', hg', hb6⟩
        rw [HOKM.out]
        have HN' := Lib.hid hn'
        have HG6 := Lib.hid (grown_trans HG.out (grown_below hb6))
        have hY6 := HY.out.later hb6
        have hR6 := HR.out.later hb6
        have hs6 := hb6.size
        clear hn' hb6
        go_wp2_with (with_reducible refine wpList_new newB ?_)
        intro Q w7 hQ1 hQ2 hQ3 hQ4
        have hY7 := hY6.later hQ4
        have hR7 := hR6.later hQ4
        have HG7 := Lib.hid (grown_trans HG6.out (grown_below hQ4))
        go_wp2_with ((with_reducible refine wpList_putB (x := y') hQ3 ?_ ?_ ?_); rfl; rfl)
        intro w8 s8 b8 k8
        have hYQ : O < Q := by have := hY6.lt; omega
        have hRQ : R < Q := by have := hR6.lt; omega
        have hY8 := hY7.grown k8 (by omega)
        have hR8 := hR7.grown k8 (by omega)
        have hQ4s := hQ4.size
        have HG8 : Hid (w5.grownBy w8 (some O)) := grown_new HG7.out k8 (by omega)
        clear hQ3 hQ4 hY6 hR6 hY7 hR7 k8
        go_wp2_with (first | ((with_reducible refine wpList_getB b8 ?_ ?_); rfl) | ((with_reducible refine wpList_putB (x := y') hY8 ?_ ?_ ?_); rfl; rfl))
        intro w9 s9 b9 k9
        have H9 := Lib.hid b9
        have HG9 := Lib.hid (grown_trans HG8.out k9)
        have hg2 : y'.gr = x.gr := hg'.trans HGR.out
        clear hg' b9 k9 b8 hY8 hR8
        go_wp2_with fail
        go_roundw
        case rel => exact ⟨k + 1, y', by omega, by go_num, by rw [HRN.out, HN'.out], hg2, H9.out, HG9.out, by omega⟩
        case measure => simp [intOf]; omega
    · obtain rfl : z = k := by omega
      have HW : Hid (timesR x.n (fb t) k = (y.n, 0)) := by
        show _ = _
        rw [HW0.out, show ((k : Nat) : Int).toNat = k from Int.toNat_natCast k, HRUN.out]
      have HBw := Lib.hid (below_grown HB5.out HG.out HB5.out.size hwO)
      have hRw := HR.out
      go_wp2_with (first | ((with_reducible refine wpList_getB HY.out ?_ ?_); rfl) | ((with_reducible refine wpList_putB (x := y) hRw ?_ ?_ ?_); rfl; rfl))
      intro w20 s20 b20 k20
      go_wp2_with fail
      refine ret_cell2 rfl rfl (loadB b20) rfl ⟨y, by rw [HW.out]; rfl, by rw [HW.out], ?_⟩
      exact below_grown HBw.out k20 HBw.out.size hwR

set_option maxRecDepth 100000 in
set_option maxHeartbeats 800000 in
theorem specMoveSalt_any (x : Br) (t : Nat) (w : World) (hr : x.gr.Rng) (hx : x.gr.Fx) :
    Calls Try.prog 38 #[.agg (arrB x), .float .f32 t] w (RetBC' (stepR x.n (fb t)) w) := by
  go_enter Try.func38, Try.ntmps38
  go_wp2_with (with_reducible refine wpList_box rfl ?_)
  intro b w1 hB1 hB2 hB3 hB4
  go_wp2_with (with_reducible refine wpList_new newB ?_)
  intro R w2 hR1 hR2 hR3 hR4
  have hX2 := hB3.later hR4
  have hbR : b < R := by have := hB4.size; omega
  have HB2 := Lib.hid (hB4.trans (hR4.mono hB4.size))
  have hwR : w.heap.size ≤ R := by have := hB4.size; omega
  clear hB3 hB4 hR4
  go_wp2_with ((with_reducible refine wpList_getB hX2 ?_ ?_); rfl)
  refine (specMoveTimes_any x t 1 w2 hr hx).mono ?_
  rw [times_one]
  rintro e w3 ⟨y, rfl, hn, hb3⟩
  have hR3' := hR3.later hb3
  have HB3 := Lib.hid (HB2.out.trans (hb3.mono HB2.out.size))
  clear hb3 hR3
  go_wp2_with ((with_reducible refine wpList_putB (x := y) hR3' ?_ ?_ ?_); rfl; rfl)
  intro w20 s20 b20 k20
  go_wp2_with fail
  refine ret_cell2 rfl rfl (loadB b20) rfl ⟨y, rfl, hn, ?_⟩
  exact below_grown HB3.out k20 HB3.out.size hwR

set_option maxRecDepth 100000 in
set_option maxHeartbeats 800000 in
theorem MoveSalt_any (x : Br) (t : Nat) (w : World) (hr : x.gr.Rng) (hx : x.gr.Fx) :
    Calls Try.prog 39 #[.agg (arrB x), .float .f32 t] w (RetBC' (stepR x.n (fb t)) w) := by
  cases hok : okB x.n
  · have HW : Hid (stepR x.n (fb t) = (B0.n, 1)) := by show _ = _; unfold stepR; rw [hok]; rfl
    have HOK := Lib.hid hok
    clear hok
    go_enter Try.func39, Try.ntmps39
    go_wp2_with (with_reducible refine wpList_box rfl ?_)
    intro b w1 hB1 hB2 hB3 hB4
    go_wp2_with (with_reducible refine wpList_new newB ?_)
    intro R w2 hR1 hR2 hR3 hR4
    have hX2 := hB3.later hR4
    have hbR : b < R := by have := hB4.size; omega
    have HB2 := Lib.hid (hB4.trans (hR4.mono hB4.size))
    have hwR : w.heap.size ≤ R := by have := hB4.size; omega
    clear hB3 hB4 hR4
    go_wp2_with ((with_reducible refine wpList_getB hX2 ?_ ?_); rfl)
    refine (ValidBrine_any x w2 hr hx).mono ?_
    rw [HOK.out]
    rintro e w3 ⟨rfl, hb3⟩
    have hX3 := hX2.later hb3
    have hR3' := hR3.later hb3
    have HB3 := Lib.hid (HB2.out.trans (hb3.mono HB2.out.size))
    clear hb3 hX2 hR3
    go_wp2_with (first | (with_reducible refine wpList_zero (zeroB _) ?_) | ((with_reducible refine wpList_putB (x := B0) hR3' ?_ ?_ ?_); rfl; rfl))
    intro w20 s20 b20 k20
    go_wp2_with fail
    refine ret_cell2 rfl rfl (loadB b20) rfl ⟨B0, by rw [HW.out]; rfl, by rw [HW.out], ?_⟩
    exact below_grown HB3.out k20 HB3.out.size hwR
  · have hs := sane_of (okB_g hok) hx
    have HW : Hid (stepR x.n (fb t) = mvR x.n (fb t)) := by show _ = _; unfold stepR; rw [hok]; rfl
    have HOK := Lib.hid hok
    clear hok
    go_enter Try.func39, Try.ntmps39
    go_wp2_with (with_reducible refine wpList_box rfl ?_)
    intro b w1 hB1 hB2 hB3 hB4
    go_wp2_with (with_reducible refine wpList_new newB ?_)
    intro R w2 hR1 hR2 hR3 hR4
    have hX2 := hB3.later hR4
    have hbR : b < R := by have := hB4.size; omega
    have HB2 := Lib.hid (hB4.trans (hR4.mono hB4.size))
    have hwR : w.heap.size ≤ R := by have := hB4.size; omega
    clear hB3 hB4 hR4
    go_wp2_with ((with_reducible refine wpList_getB hX2 ?_ ?_); rfl)
    refine (ValidBrine_any x w2 hr hx).mono ?_
    rw [HOK.out]
    rintro e w3 ⟨rfl, hb3⟩
    have hX3 := hX2.later hb3
    have hR3' := hR3.later hb3
    have HB3 := Lib.hid (HB2.out.trans (hb3.mono HB2.out.size))
    clear hb3 hX2 hR3
    go_wp2_with fail
    refine (moved_any b t _ x w3 hs hx hX3).mono ?_
    rintro e w4 ⟨y, rfl, hn, _, hb4⟩
    have hR4 := hR3'.later hb4
    have HB4 := Lib.hid (HB3.out.trans (hb4.mono HB3.out.size))
    clear hb4 hR3'
    go_wp2_with ((with_reducible refine wpList_putB (x := y) hR4 ?_ ?_ ?_); rfl; rfl)
    intro w20 s20 b20 k20
    go_wp2_with fail
    refine ret_cell2 rfl rfl (loadB b20) rfl ⟨y, by rw [HW.out]; rfl, by rw [HW.out]; exact hn, ?_⟩
    exact below_grown HB4.out k20 HB4.out.size hwR
end Go.Proofs.Ytfddjbpfahjleaa
