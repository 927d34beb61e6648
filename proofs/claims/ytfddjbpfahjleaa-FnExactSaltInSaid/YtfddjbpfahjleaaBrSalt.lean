/- The salt in a brine: both sides. -/
import Derived.Test.YtfddjbpfahjleaaBrMost
import Derived.Test.YtfddjbpfahjleaaBrGo
import Derived.Test.YtfddjbpfahjleaaBrTo
namespace Go.Proofs.Ytfddjbpfahjleaa
open Go.RowKit

/-- A list of floats in a block of its own. -/
def FLB (w : World) (gq cap : Nat) (l : List Nat) : Prop :=
  ∃ cur : Array Value, Blk w gq cur 23 ∧ cur.size = cap ∧ l.length ≤ cap ∧ ∀ j b : Nat, l[j]? = some b → cur[j]? = some (.float .f32 b)
theorem flb_of {w : World} {base : Nat} {v : Value} {l : List Nat} (h : w.ownsRow base 23 1 v l.length (flts l)) (hne : l ≠ []) :
    ∃ gq cap, v = .slice (some ⟨gq, 0, none⟩) l.length cap ∧ base ≤ gq ∧ FLB w gq cap l := by
  obtain ⟨h1, h2 | ⟨g, cap, cur, rfl, hb, hg, hn, hm, hs, ht⟩⟩ := h
  · exact absurd (List.eq_nil_of_length_eq_zero h2.2) hne
  · refine ⟨g, cap, rfl, hb, cur, hg, by omega, hn, fun j c hc => ?_⟩
    have hj : j < l.length := (List.getElem?_eq_some_iff.1 hc).1
    have e : (cur.toList.take (l.length * 1))[j]? = (flts l)[j]? := by rw [ht]
    rw [List.getElem?_take, if_pos (by omega), Array.getElem?_toList] at e
    rw [e]; simp [flts, hc]
theorem FLB.list {w : World} {gq cap : Nat} {l : List Nat} (h : FLB w gq cap l) : FListAt w (.slice (some ⟨gq, 0, none⟩) l.length cap) l := by
  obtain ⟨cur, h1, h2, h3, h4⟩ := h
  exact ⟨_, cap, rfl, h3, fun j c hc => ⟨gq, rfl, h1.at (h4 j c hc)⟩⟩
theorem sumB_of {d : Nat → F} {l cs : List Nat} (h : l.map fb = cs.map d) : sumB l = sumF d cs := by
  cases l with
  | nil => cases cs with
    | nil => rfl
    | cons c cs => cases h
  | cons x r => cases cs with
    | nil => cases h
    | cons c cs =>
      simp only [List.map_cons, List.cons.injEq] at h
      show r.foldl (fun a y => fadd a (fb y)) (fb x) = cs.foldl (fun a y => fadd a (d y)) (d c)
      rw [← List.foldl_map, ← List.foldl_map (f := d), h.1, h.2]
def saltD (n : N) (c : Nat) : F := fmul (n.s c) n.room
def saltR (n : N) : F × Int := if okB n then toldR (sumF (saltD n) (cellsM n.g)) else (some 0, 1)

def SaltRel (x : Br) (cs : List Nat) (w : World) (gq cap : Nat) (v16 : Value) (wr : World) : Prop :=
  ∃ (j : Nat) (l : List Nat), j ≤ cs.length ∧ v16 = .int .i64 j ∧ l.length = cs.length ∧
    (∀ i c : Nat, cs[i]? = some c → ∃ r, l[i]? = some r ∧ (i < j → Is r (saltD x.n c)) ∧ (j ≤ i → r = x.s c)) ∧ FLB wr gq cap l ∧ w.grownBy wr (some gq)

set_option maxRecDepth 100000 in
set_option maxHeartbeats 1600000 in
theorem SaltIn_any (x : Br) (w : World) (hr : x.gr.Rng) (hx : x.gr.Fx) :
    Calls Try.prog 20 #[.agg (arrB x)] w (RetFI (saltR x.n).1 (saltR x.n).2 w) := by
  cases hok : okB x.n
  · have HW : Hid (saltR x.n = (some 0, 1)) := by show _ = _; unfold saltR; rw [hok]; rfl
    have HOK := Lib.hid hok
    clear hok
    go_enter Try.func20, Try.ntmps20
    go_wp2_with (with_reducible refine wpList_box rfl ?_)
    intro b w1 hB1 hB2 hB3 hB4
    go_wp2_with ((with_reducible refine wpList_getB hB3 ?_ ?_); rfl)
    refine (ValidBrine_any x w1 hr hx).mono ?_
    rw [HOK.out]
    rintro e w3 ⟨rfl, hb3⟩
    have HB := Lib.hid (hB4.trans (hb3.mono hB4.size))
    clear hB3 hB4 hb3
    go_wp2_with fail
    go_ret2
    exact ⟨0, by rw [HW.out]; rfl, by rw [HW.out]; exact fb0, HB.out⟩
  · have hs := sane_of (okB_g hok) hx
    have HW : Hid (saltR x.n = toldR (sumF (saltD x.n) (cellsM x.gr.m))) := by show _ = _; unfold saltR; rw [hok]; rfl
    have HOK := Lib.hid hok
    clear hok
    go_enter Try.func20, Try.ntmps20
    go_wp2_with (with_reducible refine wpList_box rfl ?_)
    intro b w1 hB1 hB2 hB3 hB4
    go_wp2_with ((with_reducible refine wpList_getB hB3 ?_ ?_); rfl)
    refine (ValidBrine_any x w1 hr hx).mono ?_
    rw [HOK.out]
    rintro e w3 ⟨rfl, hb3⟩
    have HX3 := Lib.hid ((BAt.of_blk hB3).below hb3)
    have HB := Lib.hid (hB4.trans (hb3.mono hB4.size))
    clear hB3 hB4 hb3
    go_wp2_with fail
    refine (cells_any b 0 x.gr w3 hr HX3.out.g).mono ?_
    rintro e w4 ⟨v, rfl, hown, hb4⟩
    have hL := listAt_of hown
    have HX4 := Lib.hid (HX3.out.below hb4)
    have HB4 := Lib.hid (HB.out.trans (hb4.mono HB.out.size))
    clear hown hb4
    go_wp2_with fail
    refine (at_at b 195 v (cellsTo x.gr.wide x.gr.high 64) x.s w4 (fun c hc => cellsTo_lt hc) (cellsTo_length _ _ _) hL HX4.out.fs).mono ?_
    rintro e w5 ⟨v5, rfl, hown, hb5⟩
    have hne : (cellsTo x.gr.wide x.gr.high 64).map x.s ≠ [] := by
      intro h
      exact cells_ne (m := x.gr.m) hs.lW hs.lH (List.map_eq_nil_iff.1 h)
    obtain ⟨gq, cap, rfl, hgq, hflb⟩ := flb_of hown hne
    have HX5 := Lib.hid (HX4.out.below hb5)
    have HB5 := Lib.hid (HB4.out.trans (hb5.mono HB4.out.size))
    have HFL := Lib.hid hflb
    have hbg : b < gq := by have := HX4.out.lt; omega
    have hwg : w.heap.size ≤ gq := by have := HB4.out.size; omega
    have hlen : (cellsTo x.gr.wide x.gr.high 64).length ≤ 64 := cellsTo_length _ _ _
    clear hown hb5 hL hne hflb
    rw [List.length_map]
    go_wp2_with fail
    go_loopw [16] (fun v16 wr => SaltRel x (cellsTo x.gr.wide x.gr.high 64) w5 gq cap v16 wr) (fun v16 _ => (cellsTo x.gr.wide x.gr.high 64).length - (intOf v16).toNat)
    case atStart => exact ⟨0, _, by omega, rfl, by rw [List.length_map], fun i c hc => ⟨x.s c, by rw [List.getElem?_map, hc]; rfl, fun h => absurd h (by omega), fun _ => rfl⟩, HFL.out, grown_refl _ _⟩
    case round =>
      obtain ⟨j, l, hj, rfl, hll, hlc, hfl, hgr⟩ := hrel
      have HGR := Lib.hid hgr
      have HLC := Lib.hid hlc
      have HF := Lib.hid hfl
      have HX := Lib.hid (HX5.out.grown hgr (by omega))
      have HLL := Lib.hid hll
      clear hgr hlc hfl
      by_cases hlt : j < (cellsTo x.gr.wide x.gr.high 64).length
      · obtain ⟨c, hc⟩ : ∃ c, (cellsTo x.gr.wide x.gr.high 64)[j]? = some c := ⟨_, List.getElem?_eq_getElem hlt⟩
        have hc64 : c < 64 := cellsTo_lt (List.mem_of_getElem? hc)
        have hj64 : j < 64 := by omega
        obtain ⟨r0, hr0, _, hr2⟩ := HLC.out j c hc
        obtain rfl := hr2 (Nat.le_refl _)
        obtain ⟨cur, hblk, hcs, hlcap, hcur⟩ := HF.out
        have hcell := hblk.at (hcur j _ hr0)
        have hroom := HX.out.room
        have HBLK := Lib.hid hblk
        have HCUR := Lib.hid hcur
        have HC := Lib.hid hc
        have hjc : j < cur.size := by omega
        have j1 : (j : Int) < ((cellsTo x.gr.wide x.gr.high 64).length : Int) := by omega
        clear hc hr0 hr2 hblk hcur hll
        go_wp2_with (first | ((with_reducible refine wpList_gate ?_); refine wpList_arith _ _ rfl rfl rfl ?_; intro r n hr) | ((with_reducible refine wpList_gateS ?_); refine wpList_put1 size32 (HBLK.out.drewN _) hjc rfl rfl rfl rfl ?_))
        intro w7 s7 b7 k7
        have HK7 := Lib.hid (grown_trans (grown_trans HGR.out (grown_drewN _ _ _)) k7 : w5.grownBy w7 (some gq))
        have H7 : Hid (Blk w7 gq (cur.setIfInBounds j (.float .f32 r)) 23) := b7
        have HR : Hid (Is r (saltD x.n c)) := by
          show fb r = fmul (fm x.s c) (fb x.room)
          rw [hr.out, fop, fm_of hc64]
        clear k7 b7 hr
        go_wp2_with fail
        go_roundw
        case rel =>
          refine ⟨j + 1, l.set j r, by omega, by go_num, by rw [List.length_set]; exact HLL.out, fun i c' hc' => ?_, ⟨_, H7.out, by rw [Array.size_setIfInBounds]; exact hcs, by rw [List.length_set]; exact hlcap, fun i q hq => ?_⟩, HK7.out⟩
          · obtain ⟨q, h1, h2, h3⟩ := HLC.out i c' hc'
            by_cases e : i = j
            · subst e
              rw [HC.out] at hc'
              cases hc'
              refine ⟨r, ?_, fun _ => HR.out, fun h => absurd h (by omega)⟩
              rw [List.getElem?_set, if_pos rfl, if_pos (by rw [HLL.out]; exact hlt)]
            · refine ⟨q, ?_, fun h => h2 (by omega), fun h => h3 (by omega)⟩
              rw [List.getElem?_set, if_neg (fun x => e x.symm)]; exact h1
          · rw [List.getElem?_set] at hq
            by_cases e : j = i
            · subst e
              rw [if_pos rfl, if_pos (by rw [HLL.out]; exact hlt)] at hq
              cases hq
              rw [Array.getElem?_setIfInBounds, if_pos rfl, if_pos hjc]
            · rw [if_neg e] at hq
              rw [Array.getElem?_setIfInBounds, if_neg e]
              exact HCUR.out i q hq
        case measure => simp [intOf]; omega
      · have hjn : j = (cellsTo x.gr.wide x.gr.high 64).length := by omega
        have j1 : ¬ (j : Int) < ((cellsTo x.gr.wide x.gr.high 64).length : Int) := by omega
        have HM : Hid (l.map fb = (cellsTo x.gr.wide x.gr.high 64).map (saltD x.n)) := by
          show _ = _
          apply List.ext_getElem?
          intro i
          rw [List.getElem?_map, List.getElem?_map]
          by_cases hi : i < (cellsTo x.gr.wide x.gr.high 64).length
          · obtain ⟨c, hc⟩ : ∃ c, (cellsTo x.gr.wide x.gr.high 64)[i]? = some c := ⟨_, List.getElem?_eq_getElem hi⟩
            obtain ⟨q, h1, h2, _⟩ := HLC.out i c hc
            rw [hc, h1]
            exact congrArg some (h2 (by omega)).out
          · rw [List.getElem?_eq_none (by rw [HLL.out]; omega), List.getElem?_eq_none (by omega)]; rfl
        have HLs := HF.out.list
        rw [HLL.out] at HLs
        have HBw := Lib.hid (below_grown HB5.out HGR.out HB5.out.size hwg)
        clear hjn hll
        go_wp2_with fail
        refine (sum_any _ l wr (by rw [HLL.out]; exact hlen) HLs).mono ?_
        rintro e w10 ⟨r, rfl, hr10, hb10⟩
        have HB10 := Lib.hid (HBw.out.trans (hb10.mono HBw.out.size))
        have HR : Hid (Is r (sumF (saltD x.n) (cellsM x.gr.m))) := by
          show fb r = _
          rw [hr10.out]; exact sumB_of HM.out
        clear hb10 hr10 HLs
        go_wp2_with fail
        obtain ⟨zc, hzc⟩ : ∃ zc : Int, (if fin (sumF (saltD x.n) (cellsM x.gr.m)) then (0 : Int) else 4) = zc := ⟨_, rfl⟩
        have HZ := Lib.hid hzc
        refine (told_any r _ w10 HR.out).mono ?_
        rw [hzc]
        clear hzc
        rintro e w14 ⟨r4, rfl, hr4, hb4⟩
        have HB4 := Lib.hid (HB10.out.trans (hb4.mono HB10.out.size))
        clear hb4
        go_wp2_with fail
        go_ret2
        exact ⟨r4, by rw [HW.out]; show _ = Ending.returned (.tuple #[_, .int _ (if fin (sumF (saltD x.n) (cellsM x.gr.m)) then (0 : Int) else 4)]); rw [HZ.out]; rfl, by rw [HW.out]; exact hr4, HB4.out⟩

def SaltRelS (n : N) (w : World) (v4 v5 : Value) (wr : World) : Prop :=
  ∃ k a : Nat, 1 ≤ k ∧ k ≤ 64 ∧ v5 = .int .i64 k ∧ v4 = .float .f32 a ∧ Is a (sumF (saltD n) (cellsTo n.g.wide n.g.high k)) ∧ Below w.heap.size w wr
theorem cells_first {W H : Int} (hW : 2 ≤ W) (hH : 2 ≤ H) : cellsTo W H 1 = [0] := by
  unfold cellsTo
  simp [List.range_succ, has0 hW hH]
theorem cells_some {W H : Int} (hW : 2 ≤ W) (hH : 2 ≤ H) {k : Nat} (hk : 1 ≤ k) : (cellsTo W H k).isEmpty = false := by
  have : 0 ∈ cellsTo W H k := by
    unfold cellsTo
    exact List.mem_filter.2 ⟨List.mem_range.2 (by omega), has0 hW hH⟩
  cases h : cellsTo W H k with
  | nil => rw [h] at this; cases this
  | cons _ _ => rfl

set_option maxRecDepth 100000 in
set_option maxHeartbeats 1600000 in
theorem specSaltIn_any (x : Br) (w : World) (hr : x.gr.Rng) (hx : x.gr.Fx) :
    Calls Try.prog 19 #[.agg (arrB x)] w (RetFI (saltR x.n).1 (saltR x.n).2 w) := by
  cases hok : okB x.n
  · have HW : Hid (saltR x.n = (some 0, 1)) := by show _ = _; unfold saltR; rw [hok]; rfl
    have HOK := Lib.hid hok
    clear hok
    go_enter Try.func19, Try.ntmps19
    go_wp2_with (with_reducible refine wpList_box rfl ?_)
    intro b w1 hB1 hB2 hB3 hB4
    go_wp2_with fail
    refine (l05Ok_any b x w1 hr hx (BAt.of_blk hB3)).mono ?_
    rw [HOK.out]
    rintro e w3 ⟨rfl, hb3⟩
    have HB := Lib.hid (hB4.trans (hb3.mono hB4.size))
    clear hB3 hB4 hb3
    go_wp2_with fail
    go_ret2
    exact ⟨0, by rw [HW.out]; rfl, by rw [HW.out]; exact fb0, HB.out⟩
  · have hs := sane_of (okB_g hok) hx
    have HW : Hid (saltR x.n = toldR (sumF (saltD x.n) (cellsM x.gr.m))) := by show _ = _; unfold saltR; rw [hok]; rfl
    have HOK := Lib.hid hok
    clear hok
    go_enter Try.func19, Try.ntmps19
    go_wp2_with (with_reducible refine wpList_box rfl ?_)
    intro b w1 hB1 hB2 hB3 hB4
    go_wp2_with fail
    refine (l05Ok_any b x w1 hr hx (BAt.of_blk hB3)).mono ?_
    rw [HOK.out]
    rintro e w3 ⟨rfl, hb3⟩
    have HX3 := Lib.hid ((BAt.of_blk hB3).below hb3)
    have HB := Lib.hid (hB4.trans (hb3.mono hB4.size))
    clear hB3 hB4 hb3
    have q0 : w3.cell? ⟨b, 195, none⟩ = some (.float .f32 (x.s 0)) := HX3.out.s (k := 0) (by omega)
    have q1 := HX3.out.room
    go_wp2_with (((with_reducible refine wpList_gate ?_); refine wpList_arith _ _ rfl rfl rfl ?_; intro r n hr_))
    clear q0 q1
    have H0 : Hid (Is r (saltD x.n 0)) := by
      show fb r = fmul (fm x.s 0) (fb x.room)
      rw [hr_.out, fop, fm_of (by omega)]
    clear hr_
    go_loopw [4, 5] (fun v4 v5 wr => SaltRelS x.n w3 v4 v5 wr) (fun _ v5 _ => 64 - (intOf v5).toNat)
    case atStart => exact ⟨1, r, by omega, by omega, rfl, rfl, by rw [cells_first (show 2 ≤ x.n.g.wide from hs.lW) (show 2 ≤ x.n.g.high from hs.lH)]; exact H0.out, below_drawn (Below.refl _ _) _⟩
    case round =>
      obtain ⟨k, a, hk1, hk, rfl, rfl, ha, hB⟩ := hrel
      have HBw := Lib.hid hB
      have HX := Lib.hid (HX3.out.below hB)
      have HA := Lib.hid ha
      clear hB ha
      by_cases hlt : k < 64
      · have k1 : (k : Int) < 64 := by omega
        cases hh : hasB x.gr.wide x.gr.high k
        · have HH := Lib.hid hh
          clear hh
          go_wp2_with (go_at_call 43; refine (l01Is_any b 0 k x.gr _ hlt hr HX.out.g).mono ?_; rw [HH.out]; rintro e w' ⟨rfl, rfl⟩)
          go_roundw
          case rel => exact ⟨k + 1, a, by omega, by omega, by go_num, rfl, by rw [cellsTo_no (show hasB x.n.g.wide x.n.g.high k = false from HH.out)]; exact HA.out, HBw.out⟩
          case measure => simp [intOf]; omega
        · have HH := Lib.hid hh
          clear hh
          have q1 := fun zz => ext_cell wr zz (HX.out.s hlt)
          have q2 := fun zz => ext_cell wr zz HX.out.room
          go_wp2_with (go_at_call 43; refine (l01Is_any b 0 k x.gr _ hlt hr HX.out.g).mono ?_; rw [HH.out]; rintro e w' ⟨rfl, rfl⟩)
          refine wp_soft (SF none) (by kernel_rfl) (by kernel_rfl) ?_
          repeat (first | (refine soft_arith (fun _ n h => h.drewN n) _ _ rfl rfl rfl ?_; intro r hr9) | (refine soft_step (fun K hK => ?_); go_simp; (try go_bits); refine hK _ ?_; clear hK K))
          rename_i rm hm
          refine soft_nil ?_
          rintro w5 hw5
          have HB5 := Lib.hid (HBw.out.trans (hw5.below.mono HBw.out.size))
          clear hw5 q1 q2
          go_wp2_with fail
          go_roundw
          case rel =>
            refine ⟨k + 1, r, by omega, by omega, by go_num, rfl, ?_, HB5.out⟩
            rw [cellsTo_yes (show hasB x.n.g.wide x.n.g.high k = true from HH.out), sumF_more (cells_some (show 2 ≤ x.n.g.wide from hs.lW) (show 2 ≤ x.n.g.high from hs.lH) hk1)]
            show fb r = fadd _ (fmul (fm x.s k) (fb x.room))
            rw [hr9.out, fop, HA.out.out, hm.out, fop, fm_of hlt]
          case measure => simp [intOf]; omega
      · obtain rfl : k = 64 := by omega
        have HBe := Lib.hid (HB.out.trans (HBw.out.mono HB.out.size))
        have HV : Hid (Is a (sumF (saltD x.n) (cellsM x.gr.m))) := HA.out
        cases hf : fin (sumF (saltD x.n) (cellsM x.gr.m))
        · have HF := Lib.hid hf
          clear hf
          go_wp2_with fail
          refine (l01Finite_any a _ wr HV.out).mono ?_
          rw [HF.out]
          rintro e w4 ⟨rfl, hb4⟩
          have HB4 := Lib.hid (HBe.out.trans (hb4.mono HBe.out.size))
          clear hb4
          go_wp2_with fail
          go_ret2
          exact ⟨0, by rw [HW.out]; show _ = Ending.returned (.tuple #[_, .int _ (if fin (sumF (saltD x.n) (cellsM x.gr.m)) then (0 : Int) else 4)]); rw [HF.out]; rfl, by rw [HW.out]; show Is 0 (if fin (sumF (saltD x.n) (cellsM x.gr.m)) then _ else _); rw [HF.out]; exact fb0, HB4.out⟩
        · have HF := Lib.hid hf
          clear hf
          go_wp2_with fail
          refine (l01Finite_any a _ wr HV.out).mono ?_
          rw [HF.out]
          rintro e w4 ⟨rfl, hb4⟩
          have HB4 := Lib.hid (HBe.out.trans (hb4.mono HBe.out.size))
          clear hb4
          go_wp2_with fail
          go_ret2
          exact ⟨a, by rw [HW.out]; show _ = Ending.returned (.tuple #[_, .int _ (if fin (sumF (saltD x.n) (cellsM x.gr.m)) then (0 : Int) else 4)]); rw [HF.out]; rfl, by rw [HW.out]; show Is a (if fin (sumF (saltD x.n) (cellsM x.gr.m)) then _ else _); rw [HF.out]; exact HV.out, HB4.out⟩
end Go.Proofs.Ytfddjbpfahjleaa
