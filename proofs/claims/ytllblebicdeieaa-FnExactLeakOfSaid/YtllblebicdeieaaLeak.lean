/- What leaks out of a ground. -/
import Derived.Test.YtllblebicdeieaaSum
namespace Go.Proofs.Ytllblebicdeieaa
open Go.RowKit

def fixL (m : M) (k : Nat) : List Nat := (cellsTo m.wide m.high k).filter fun c => fixB m.fixed c
theorem fixL_no {m : M} {k : Nat} (h : hasB m.wide m.high k = false) : fixL m (k + 1) = fixL m k := by unfold fixL; rw [cellsTo_no h]
theorem fixL_free {m : M} {k : Nat} (h : hasB m.wide m.high k = true) (h' : fixB m.fixed k = false) : fixL m (k + 1) = fixL m k := by
  unfold fixL; rw [cellsTo_yes h, List.filter_append]; simp [h']
theorem fixL_yes {m : M} {k : Nat} (h : hasB m.wide m.high k = true) (h' : fixB m.fixed k = true) : fixL m (k + 1) = fixL m k ++ [k] := by
  unfold fixL; rw [cellsTo_yes h, List.filter_append]; simp [h']
theorem fixL_lt {m : M} {k c : Nat} (h : c ∈ fixL m k) : c < k := cellsTo_lt (List.mem_filter.1 h).1
theorem fixL_length (m : M) (k : Nat) : (fixL m k).length ≤ k := Nat.le_trans (List.length_filter_le _ _) (cellsTo_length _ _ _)

def sumF (d : Nat → F) : List Nat → F
  | [] => some 0
  | c :: r => r.foldl (fun a y => fadd a (d y)) (d c)
theorem sumF_more {d : Nat → F} {l : List Nat} {c : Nat} (h : l.isEmpty = false) : sumF d (l ++ [c]) = fadd (sumF d l) (d c) := by
  cases l with
  | nil => cases h
  | cons x r => show (r ++ [c]).foldl _ _ = _; rw [List.foldl_append]; rfl
theorem sumF_one {d : Nat → F} {l : List Nat} {c : Nat} (h : l.isEmpty = true) : sumF d (l ++ [c]) = d c := by
  cases l with
  | nil => rfl
  | cons x r => cases h
theorem sumB_map (f : Nat → Nat) {l : List Nat} (h : ∀ c ∈ l, c < 64) : sumB (l.map f) = sumF (fm f) l := by
  cases l with
  | nil => rfl
  | cons x r =>
    show (r.map f).foldl _ (fb (f x)) = r.foldl _ (fm f x)
    rw [fm_of (h x (by simp))]
    have hr : ∀ c ∈ r, c < 64 := fun c hc => h c (List.mem_cons_of_mem _ hc)
    clear h
    generalize fb (f x) = a
    induction r generalizing a with
    | nil => rfl
    | cons y r ih =>
      show (r.map f).foldl _ (fadd a (fb (f y))) = r.foldl _ (fadd a (fm f y))
      rw [fm_of (hr y (by simp))]
      exact ih (fun c hc => hr c (List.mem_cons_of_mem _ hc)) _

def leakV (m : M) : F := fsub (some 0) (sumF (balF m (cellsM m)) (fixL m 64))
def leakR (m : M) : F × Int :=
  if okI m then (if balOk m (cellsM m) then (if fin (leakV m) then leakV m else some 0, if fin (leakV m) then 0 else 4) else (some 0, 4)) else (some 0, 1)

set_option maxHeartbeats 400000 in
theorem told_any (a : Nat) (x : F) (w : World) (ha : Is a x) :
    Calls Try.prog 67 #[.float .f32 a] w (RetFI (if fin x then x else some 0) (if fin x then 0 else 4) w) := by
  cases hf : fin x
  · have HF := Lib.hid hf
    clear hf
    go_enter Try.func67, Try.ntmps67
    go_wp2_with fail
    refine (finite_any a x w ha).mono ?_
    rw [HF.out]
    rintro e w1 ⟨rfl, hb1⟩
    have HB := Lib.hid hb1
    clear hb1
    go_wp2_with fail
    go_ret2
    exact ⟨0, rfl, fb0, HB.out⟩
  · have HF := Lib.hid hf
    clear hf
    go_enter Try.func67, Try.ntmps67
    go_wp2_with fail
    refine (finite_any a x w ha).mono ?_
    rw [HF.out]
    rintro e w1 ⟨rfl, hb1⟩
    have HB := Lib.hid hb1
    clear hb1
    go_wp2_with fail
    go_ret2
    exact ⟨a, rfl, ha, HB.out⟩

def LeakRelS (m : M) (d : Nat → F) (w : World) (v6 v7 v8 : Value) (wr : World) : Prop :=
  ∃ (k s : Nat), k ≤ 64 ∧ v8 = .int .i64 k ∧ v7 = .bool (fixL m k).isEmpty ∧ v6 = .float .f32 s ∧ Is s (sumF d (fixL m k)) ∧ Below w.heap.size w wr

set_option maxRecDepth 100000 in
set_option maxHeartbeats 1600000 in
theorem LeakOf_any (g : G) (w : World) (hr : g.Rng) (hx : g.Fx) :
    Calls Try.prog 32 #[.agg (arrG g)] w (RetFI (leakR g.m).1 (leakR g.m).2 w) := by
  cases hok : okI g.m
  · have HW : Hid (leakR g.m = (some 0, 1)) := by show _ = _; unfold leakR; rw [hok]; rfl
    have HOK := Lib.hid hok
    clear hok hx
    go_enter Try.func32, Try.ntmps32
    go_wp2_with (with_reducible refine wpList_box rfl ?_)
    intro b w1 hB1 hB2 hB3 hB4
    go_wp2_with ((with_reducible refine wpList_getG hB3 ?_ ?_); rfl)
    refine (ValidGround_any g w1 hr).mono ?_
    rw [HOK.out]
    rintro e w3 ⟨rfl, hb3⟩
    have HB := Lib.hid (hB4.trans (hb3.mono hB4.size))
    clear hB3 hB4 hb3
    go_wp2_with fail
    go_ret2
    exact ⟨0, by rw [HW.out]; rfl, by rw [HW.out]; exact fb0, HB.out⟩
  · have hs := sane_of hok hx
    cases hbo : balOk g.m (cellsM g.m)
    · have HW : Hid (leakR g.m = (some 0, 4)) := by show _ = _; unfold leakR; rw [hok, hbo]; rfl
      have HOK := Lib.hid hok
      have HBO := Lib.hid hbo
      clear hok hbo
      go_enter Try.func32, Try.ntmps32
      go_wp2_with (with_reducible refine wpList_box rfl ?_)
      intro b w1 hB1 hB2 hB3 hB4
      go_wp2_with ((with_reducible refine wpList_getG hB3 ?_ ?_); rfl)
      refine (ValidGround_any g w1 hr).mono ?_
      rw [HOK.out]
      rintro e w3 ⟨rfl, hb3⟩
      have HB := Lib.hid (hB4.trans (hb3.mono hB4.size))
      have HG := hB3.later hb3
      clear hB3 hB4 hb3
      go_wp2_with fail
      refine (balances_any b 0 g w3 hr hs.hW hs.hH (GAt.of_blk HG)).mono ?_
      rintro e w4 ⟨f, rfl, hf, hb4⟩
      rw [HBO.out]
      have HB4 := Lib.hid (HB.out.trans (hb4.mono HB.out.size))
      clear hb4 HG hf
      go_wp2_with (first | (with_reducible refine wpList_new newF ?_) | (with_reducible refine wpList_zero (zeroF _) ?_) | (with_reducible refine wpList_new newG ?_) | (with_reducible refine wpList_zero (zeroG _) ?_))
      intro C w5 hC1 hC2 hC3 hC4
      go_wp2_with ((with_reducible refine wpList_putF (f := f) hC3 ?_ ?_ ?_); rfl; rfl)
      intro w6 s6 b6 k6
      have HB6 := Lib.hid (below_grown (HB4.out.trans (hC4.mono HB4.out.size)) k6 (Nat.le_trans HB4.out.size hC4.size) (by have := HB4.out.size; omega))
      clear hC3 hC4 k6 b6
      go_wp2_with fail
      go_ret2
      exact ⟨0, by rw [HW.out]; rfl, by rw [HW.out]; exact fb0, HB6.out⟩
    · have HW : Hid (leakR g.m = (if fin (leakV g.m) then leakV g.m else some 0, if fin (leakV g.m) then 0 else 4)) := by show _ = _; unfold leakR; rw [hok, hbo]; rfl
      have HOK := Lib.hid hok
      have HBO := Lib.hid hbo
      clear hok hbo
      go_enter Try.func32, Try.ntmps32
      go_wp2_with (with_reducible refine wpList_box rfl ?_)
      intro b w1 hB1 hB2 hB3 hB4
      go_wp2_with ((with_reducible refine wpList_getG hB3 ?_ ?_); rfl)
      refine (ValidGround_any g w1 hr).mono ?_
      rw [HOK.out]
      rintro e w3 ⟨rfl, hb3⟩
      have HB := Lib.hid (hB4.trans (hb3.mono hB4.size))
      have HG := hB3.later hb3
      clear hB3 hB4 hb3
      go_wp2_with fail
      refine (balances_any b 0 g w3 hr hs.hW hs.hH (GAt.of_blk HG)).mono ?_
      rintro e w4 ⟨f, rfl, hf, hb4⟩
      rw [HBO.out]
      have HB4 := Lib.hid (HB.out.trans (hb4.mono HB.out.size))
      have HF := Lib.hid hf
      have HG4 := HG.later hb4
      clear hb4 HG hf
      go_wp2_with (first | (with_reducible refine wpList_new newF ?_) | (with_reducible refine wpList_zero (zeroF _) ?_) | (with_reducible refine wpList_new newG ?_) | (with_reducible refine wpList_zero (zeroG _) ?_))
      intro C w5 hC1 hC2 hC3 hC4
      have HG5 := HG4.later hC4
      have hbC : b < C := by have := HG4.lt; omega
      go_wp2_with ((with_reducible refine wpList_putF (f := f) hC3 ?_ ?_ ?_); rfl; rfl)
      intro w6 s6 b6 k6
      have HG6 := HG5.grown k6 (by omega)
      have HB6 := Lib.hid (below_grown (HB4.out.trans (hC4.mono HB4.out.size)) k6 (Nat.le_trans HB4.out.size hC4.size) (by have := HB4.out.size; omega))
      have hCl : C < w6.heap.size := b6.lt
      have hCw : w.heap.size ≤ C := by have := HB4.out.size; omega
      clear hC3 hC4 k6 HG4 HG5
      go_wp2_with fail
      refine (cells_any b 0 g w6 hr (GAt.of_blk HG6)).mono ?_
      rintro e w7 ⟨v, rfl, hown, hb7⟩
      obtain ⟨gq, cap, rfl, hgq, hLB⟩ := lblk_of hown (cells_ne (m := g.m) hs.lW hs.lH)
      have HG7 := GAt.of_blk (HG6.later hb7)
      have HC7 := b6.later hb7
      have HB7 := Lib.hid (HB6.out.trans (hb7.mono HB6.out.size))
      have HLB := Lib.hid hLB
      clear hb7 hown hLB HG6 b6
      go_wp2_with fail
      refine (del_free gq cap (cellsM g.m) b g w7 (fun c hc => cellsTo_lt hc) (cellsTo_length _ _ _) HLB.out hs HG7 (by omega)).mono ?_
      rintro e w8 ⟨rfl, hLB8, hgr8⟩
      have HL : Hid (((cellsM g.m).filter fun c => !freeP g.fixed c) = fixL g.m 64) := by show _ = _; unfold fixL freeP; simp; rfl
      rw [HL.out] at hLB8
      rw [HL.out]
      have hL8 := LBlk.list hLB8
      have HC8 := HC7.grown hgr8 (by omega)
      have HB8 := Lib.hid (below_grown HB7.out hgr8 HB7.out.size (by have := HB6.out.size; omega))
      clear HG7 HC7 hgr8 hLB8
      have hfat : FAt w8 C 0 f := fun i hi => by rw [Nat.zero_add]; exact HC8.at (arrF_get f hi)
      go_wp2_with fail
      refine (at_any C _ (fixL g.m 64) f w8 (fun c hc => fixL_lt hc) (fixL_length _ _) hL8 hfat).mono ?_
      rintro e w9 ⟨v9, rfl, hfl, hb9⟩
      have HB9 := Lib.hid (HB8.out.trans (hb9.mono HB8.out.size))
      clear hb9 hL8 hfat HC8
      go_wp2_with fail
      refine (sum_any v9 _ w9 (by rw [List.length_map]; exact fixL_length _ _) hfl).mono ?_
      rintro e w10 ⟨r, rfl, hr10, hb10⟩
      have HB10 := Lib.hid (HB9.out.trans (hb10.mono HB9.out.size))
      have HS : Hid (fb r = sumF (balF g.m (cellsM g.m)) (fixL g.m 64)) := by
        show _ = _
        rw [hr10.out, ← HF.out]
        exact sumB_map f (fun c hc => fixL_lt hc)
      clear hb10 hfl hr10
      go_wp2_with (refine wpList_arith _ _ rfl rfl rfl ?_; intro r2 n2 hr2)
      have HV : Hid (fb r2 = leakV g.m) := by show _ = _; rw [hr2.out, fop, HS.out, fb0]; rfl
      obtain ⟨zc, hzc⟩ : ∃ zc : Int, (if fin (leakV g.m) then (0 : Int) else 4) = zc := ⟨_, rfl⟩
      have HZ := Lib.hid hzc
      refine (told_any r2 _ _ HV.out).mono ?_
      rw [hzc]
      clear hzc
      rintro e w11 ⟨r3, rfl, hr3, hb11⟩
      have HB11 := Lib.hid ((below_drawn HB10.out n2).trans (hb11.mono HB10.out.size))
      clear hb11
      go_wp2_with fail
      go_ret2
      exact ⟨r3, by rw [HW.out, HZ.out]; rfl, by rw [HW.out]; exact hr3, HB11.out⟩

set_option maxRecDepth 100000 in
set_option maxHeartbeats 1600000 in
theorem specLeakOf_any (g : G) (w : World) (hr : g.Rng) (hx : g.Fx) :
    Calls Try.prog 31 #[.agg (arrG g)] w (RetFI (leakR g.m).1 (leakR g.m).2 w) := by
  cases hok : okI g.m
  · have HW : Hid (leakR g.m = (some 0, 1)) := by show _ = _; unfold leakR; rw [hok]; rfl
    have HOK := Lib.hid hok
    clear hok hx
    go_enter Try.func31, Try.ntmps31
    go_wp2_with (with_reducible refine wpList_box rfl ?_)
    intro b w1 hB1 hB2 hB3 hB4
    go_wp2_with fail
    refine (l01Ok_any b 0 g w1 hr (GAt.of_blk hB3)).mono ?_
    rw [HOK.out]
    rintro e w3 ⟨rfl, hb3⟩
    have HB := Lib.hid (hB4.trans (hb3.mono hB4.size))
    clear hB3 hB4 hb3
    go_wp2_with fail
    go_ret2
    exact ⟨0, by rw [HW.out]; rfl, by rw [HW.out]; exact fb0, HB.out⟩
  · have hs := sane_of hok hx
    cases hbo : balOk g.m (cellsM g.m)
    · have HW : Hid (leakR g.m = (some 0, 4)) := by show _ = _; unfold leakR; rw [hok, hbo]; rfl
      have HOK := Lib.hid hok
      have HBO := Lib.hid hbo
      clear hok hbo
      go_enter Try.func31, Try.ntmps31
      go_wp2_with (with_reducible refine wpList_box rfl ?_)
      intro b w1 hB1 hB2 hB3 hB4
      go_wp2_with fail
      refine (l01Ok_any b 0 g w1 hr (GAt.of_blk hB3)).mono ?_
      rw [HOK.out]
      rintro e w3 ⟨rfl, hb3⟩
      have HB := Lib.hid (hB4.trans (hb3.mono hB4.size))
      have HG := hB3.later hb3
      clear hB3 hB4 hb3
      go_wp2_with fail
      refine (l01Balances_any b 0 g w3 hr hs.hW hs.hH (GAt.of_blk HG)).mono ?_
      rintro e w4 ⟨f, rfl, hf, hb4⟩
      rw [HBO.out]
      have HB4 := Lib.hid (HB.out.trans (hb4.mono HB.out.size))
      clear hb4 HG hf
      go_wp2_with (first | (with_reducible refine wpList_new newF ?_) | (with_reducible refine wpList_zero (zeroF _) ?_) | (with_reducible refine wpList_new newG ?_) | (with_reducible refine wpList_zero (zeroG _) ?_))
      intro C w5 hC1 hC2 hC3 hC4
      go_wp2_with ((with_reducible refine wpList_putF (f := f) hC3 ?_ ?_ ?_); rfl; rfl)
      intro w6 s6 b6 k6
      have HB6 := Lib.hid (below_grown (HB4.out.trans (hC4.mono HB4.out.size)) k6 (Nat.le_trans HB4.out.size hC4.size) (by have := HB4.out.size; omega))
      clear hC3 hC4 k6 b6
      go_wp2_with fail
      go_ret2
      exact ⟨0, by rw [HW.out]; rfl, by rw [HW.out]; exact fb0, HB6.out⟩
    · have HW : Hid (leakR g.m = (if fin (leakV g.m) then leakV g.m else some 0, if fin (leakV g.m) then 0 else 4)) := by show _ = _; unfold leakR; rw [hok, hbo]; rfl
      have HOK := Lib.hid hok
      have HBO := Lib.hid hbo
      clear hok hbo
      go_enter Try.func31, Try.ntmps31
      go_wp2_with (with_reducible refine wpList_box rfl ?_)
      intro b w1 hB1 hB2 hB3 hB4
      go_wp2_with fail
      refine (l01Ok_any b 0 g w1 hr (GAt.of_blk hB3)).mono ?_
      rw [HOK.out]
      rintro e w3 ⟨rfl, hb3⟩
      have HB := Lib.hid (hB4.trans (hb3.mono hB4.size))
      have HG := hB3.later hb3
      clear hB3 hB4 hb3
      go_wp2_with fail
      refine (l01Balances_any b 0 g w3 hr hs.hW hs.hH (GAt.of_blk HG)).mono ?_
      rintro e w4 ⟨f, rfl, hf, hb4⟩
      rw [HBO.out]
      have HB4 := Lib.hid (HB.out.trans (hb4.mono HB.out.size))
      have HF := Lib.hid (hf HBO.out)
      have HG4 := HG.later hb4
      clear hb4 HG hf
      go_wp2_with (first | (with_reducible refine wpList_new newF ?_) | (with_reducible refine wpList_zero (zeroF _) ?_) | (with_reducible refine wpList_new newG ?_) | (with_reducible refine wpList_zero (zeroG _) ?_))
      intro C w5 hC1 hC2 hC3 hC4
      have HG5 := HG4.later hC4
      have hbC : b < C := by have := HG4.lt; omega
      go_wp2_with ((with_reducible refine wpList_putF (f := f) hC3 ?_ ?_ ?_); rfl; rfl)
      intro w6 s6 b6 k6
      have HG6 := HG5.grown k6 (by omega)
      have HB6 := Lib.hid (below_grown (HB4.out.trans (hC4.mono HB4.out.size)) k6 (Nat.le_trans HB4.out.size hC4.size) (by have := HB4.out.size; omega))
      have hCl : C < w6.heap.size := b6.lt
      have hCw : w.heap.size ≤ C := by have := HB4.out.size; omega
      clear hC3 hC4 k6 HG4 HG5
      have HGa := Lib.hid (GAt.of_blk HG6)
      have HC6 := Lib.hid b6
      clear HG6 b6
      go_wp2_with fail
      go_loopw [6, 7, 8] (fun v6 v7 v8 wr => LeakRelS g.m (fm f) w6 v6 v7 v8 wr) (fun _ _ v8 _ => 64 - (intOf v8).toNat)
      case atStart => exact ⟨0, 0, by omega, rfl, rfl, rfl, fb0, Below.refl _ _⟩
      case round =>
        obtain ⟨k, s, hk, rfl, rfl, rfl, hsum, hBel⟩ := hrel
        have HS := Lib.hid hsum
        have HBw := Lib.hid hBel
        have HG := Lib.hid (HGa.out.below hBel)
        have HC := Lib.hid (HC6.out.later hBel)
        clear hsum hBel
        by_cases hlt : k < 64
        · have k1 : (k : Int) < 64 := by omega
          have hcell := HC.out.at (arrF_get f hlt)
          cases hh : hasB g.wide g.high k
          · have HH := Lib.hid hh
            clear hh
            go_wp2_with (go_at_call 58; refine (l01Is_any b 0 k g _ hlt hr HG.out).mono ?_; rw [HH.out]; rintro e w' ⟨rfl, rfl⟩)
            go_roundw
            case rel => exact ⟨k + 1, s, by omega, by go_num, by rw [fixL_no (m := g.m) HH.out], rfl, by rw [fixL_no (m := g.m) HH.out]; exact HS.out, HBw.out⟩
            case measure => simp [intOf]; omega
          · have HH := Lib.hid hh
            clear hh
            cases hx1 : fixB g.fixed k
            · have HX := Lib.hid hx1
              clear hx1
              go_wp2_with (first | (go_at_call 58; refine (l01Is_any b 0 k g _ hlt hr HG.out).mono ?_; rw [HH.out]; rintro e w' ⟨rfl, rfl⟩) | (go_at_call 60; refine (l01Fixed_any b 0 k g _ hlt hs HG.out).mono ?_; rw [HX.out]; rintro e w' ⟨rfl, rfl⟩))
              go_roundw
              case rel => exact ⟨k + 1, s, by omega, by go_num, by rw [fixL_free (m := g.m) HH.out HX.out], rfl, by rw [fixL_free (m := g.m) HH.out HX.out]; exact HS.out, HBw.out⟩
              case measure => simp [intOf]; omega
            · have HX := Lib.hid hx1
              clear hx1
              have HN := Lib.hid (fixL_yes (m := g.m) HH.out HX.out)
              cases he : (fixL g.m k).isEmpty
              · have HE := Lib.hid he
                clear he
                go_wp2_with (first | (go_at_call 58; refine (l01Is_any b 0 k g _ hlt hr HG.out).mono ?_; rw [HH.out]; rintro e w' ⟨rfl, rfl⟩) | (go_at_call 60; refine (l01Fixed_any b 0 k g _ hlt hs HG.out).mono ?_; rw [HX.out]; rintro e w' ⟨rfl, rfl⟩) | ((with_reducible refine wpList_gate ?_); refine wpList_arith _ _ rfl rfl rfl ?_; intro r n hr))
                go_roundw
                case rel => exact ⟨k + 1, r, by omega, by go_num, by rw [HN.out]; simp, rfl, by rw [HN.out, sumF_more HE.out]; show fb r = _; rw [hr.out, fop, HS.out.out, fm_of hlt], below_drawn HBw.out _⟩
                case measure => simp [intOf]; omega
              · have HE := Lib.hid he
                clear he
                go_wp2_with (first | (go_at_call 58; refine (l01Is_any b 0 k g _ hlt hr HG.out).mono ?_; rw [HH.out]; rintro e w' ⟨rfl, rfl⟩) | (go_at_call 60; refine (l01Fixed_any b 0 k g _ hlt hs HG.out).mono ?_; rw [HX.out]; rintro e w' ⟨rfl, rfl⟩))
                go_roundw
                case rel => exact ⟨k + 1, f k, by omega, by go_num, by rw [HN.out]; simp, rfl, by rw [HN.out, sumF_one HE.out]; exact (fm_of hlt).symm, HBw.out⟩
                case measure => simp [intOf]; omega
        · have hk64 : k = 64 := by omega
          have HS2 : Hid (fb s = sumF (balF g.m (cellsM g.m)) (fixL g.m 64)) := by
            show _ = _
            rw [← HF.out, ← hk64]; exact HS.out
          go_wp2_with (refine wpList_arith _ _ rfl rfl rfl ?_; intro r2 n2 hr2)
          have HV : Hid (fb r2 = leakV g.m) := by show _ = _; rw [hr2.out, fop, HS2.out, fb0]; rfl
          refine (l01Finite_any r2 _ _ HV.out).mono ?_
          rintro e w11 ⟨rfl, hb11⟩
          have HB11 := Lib.hid ((HB6.out.trans ((below_drawn HBw.out n2).mono HB6.out.size)).trans (hb11.mono (Nat.le_trans HB6.out.size HBw.out.size)))
          clear hb11
          cases hfi : fin (leakV g.m)
          · have HW2 : Hid (leakR g.m = (some 0, 4)) := by show _ = _; rw [HW.out, hfi]; rfl
            clear hfi
            go_wp2_with fail
            go_ret2
            exact ⟨0, by rw [HW2.out]; rfl, by rw [HW2.out]; exact fb0, HB11.out⟩
          · have HW2 : Hid (leakR g.m = (leakV g.m, 0)) := by show _ = _; rw [HW.out, hfi]; rfl
            clear hfi
            go_wp2_with fail
            go_ret2
            exact ⟨r2, by rw [HW2.out]; rfl, by rw [HW2.out]; exact HV.out, HB11.out⟩
end Go.Proofs.Ytllblebicdeieaa
