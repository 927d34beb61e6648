/- The drawdowns at all cells: both sides. -/
import Derived.Test.YtbhnnglpakdigaaWat
namespace Go.Proofs.Ytbhnnglpakdigaa
open Go.RowKit

/-- A field and a code are handed back. -/
def RetFldC (x : Nat → F) (z : Int) (w : World) (e : Ending) (w' : World) : Prop := ∃ f, e = .returned (.tuple #[.agg (arrF f), .int .i64 z]) ∧ fm f = x ∧ Below w.heap.size w w'
/-- The sum at a cell. -/
def cellSum (T S : Nat) (l : List We) (t : Int) (i : Nat) : F := sumX (l.map (downW T S ((i % 8 : Nat) : Int) ((i / 8 : Nat) : Int) t))
def fldF (T S : Nat) (l : List We) (t : Int) (i : Nat) : F := if i < 64 then (if askW (okA (fb T) (fb S)) l 0 0 [t] = 0 then cellSum T S l t i else some 0) else none
def FldRel (T S : Nat) (l : List We) (t : Int) (w : World) (B : Nat) (v : Value) (wr : World) : Prop :=
  ∃ (k : Nat) (f : Nat → Nat), k ≤ 64 ∧ v = .int .i64 k ∧ Blk wr B (arrF f) 66 ∧ (∀ i, i < k → fb (f i) = cellSum T S l t i) ∧ w.grownBy wr (some B)
theorem fld_zero {T S : Nat} {l : List We} {t : Int} (h : askW (okA (fb T) (fb S)) l 0 0 [t] ≠ 0) : fm (fun _ => 0) = fldF T S l t := by
  funext i
  unfold fm fldF
  rw [if_neg h]
  split
  · exact fb0
  · rfl

set_option maxRecDepth 100000 in
set_option maxHeartbeats 3200000 in
theorem FieldAfter_any (T S : Nat) (v : Value) (l : List We) (t : Int) (w : World) (hlen : l.length ≤ 1048576) (hv : WAt w v l) :
    Calls Try.prog 39 #[.agg #[.float .f32 T, .float .f32 S], v, .int .i64 t] w (RetFldC (fldF T S l t) (askW (okA (fb T) (fb S)) l 0 0 [t]) w) := by
  go_enter Try.func39, Try.ntmps39
  go_wp2_with (with_reducible refine wpList_box rfl ?_)
  intro bA wA hA1 hA2 hA3 hA4
  go_wp2_with (first | (with_reducible refine wpList_new newF ?_) | (with_reducible refine wpList_zero (zeroF _) ?_))
  intro R wR hR1 hR2 hR3 hR4
  have hG := Lib.hid (hA3.later hR4)
  have HBA := Lib.hid (below_next hA4 hR4)
  have HV0 := hv.far HBA.out
  go_wp2_with ((with_reducible refine wpList_get hG.out Try.underlying30 rfl (by kernel_rfl) ?_ ?_); rfl)
  obtain ⟨c, hc⟩ : ∃ c, askW (okA (fb T) (fb S)) l 0 0 [t] = c := ⟨_, rfl⟩
  have HC := Lib.hid hc
  clear hc
  refine (momentsFault_any T S _ _ l 0 0 [t] _ (by omega) (HV0.far ((Below.refl _ _).alloc (Nat.le_refl _) _)) (by simp) (tat_list (ts := [t]) (Blk.new' wR _ _ rfl))).mono ?_
  rw [HC.out]
  rintro e w2 ⟨rfl, hb2⟩
  have HG2 := Lib.hid ((hG.out.alloc _).later hb2)
  have HR2 := Lib.hid ((hR3.alloc _).later hb2)
  have HB2 := Lib.hid (below_next (HBA.out.alloc HBA.out.size _) hb2)
  have HV := Lib.hid (hv.far HB2.out)
  have sA := hA4.size
  have hRw : w.heap.size ≤ R := by omega
  clear hb2 hA3 hA4 hR3 hR4 HV0
  by_cases h0 : c = 0
  · subst h0
    have hl12 := (ask_down HC.out).2.2.1
    have HT : Hid (1 ≤ t ∧ t ≤ 100000) := by obtain ⟨_, _, _, _, _, h⟩ := ask_down HC.out; exact mom_of (h t (by simp))
    have HD : Hid (∀ k : Nat, k < 64 → ∀ e ∈ l, DownOk T S e.x e.y ((k % 8 : Nat) : Int) ((k / 8 : Nat) : Int) t) := fun k hk e he =>
      ⟨(ask_down HC.out).1, (well_of ((ask_down HC.out).2.1 e he)).1, (well_of ((ask_down HC.out).2.1 e he)).2, by omega, by omega, HT.out⟩
    go_wp2_with (first | (with_reducible refine wpList_new newF ?_) | (with_reducible refine wpList_zero (zeroF _) ?_))
    intro B wB hB1 hB2 hB3 hB4
    go_wp2_with ((with_reducible refine wpList_putF (f := fun _ => 0) hB3 ?_ ?_ ?_); rfl; rfl)
    intro w3 s3 b3 k3
    have HB3 := Lib.hid b3
    have HG3 := Lib.hid ((HG2.out.later hB4).grown k3 (by have := HG2.out.lt; omega))
    have HR3 := Lib.hid ((HR2.out.later hB4).grown k3 (by have := HR2.out.lt; omega))
    have HX3 := Lib.hid (below_grown (below_next HB2.out hB4) k3 (Nat.le_trans HB2.out.size hB4.size) (by have := HB2.out.size; omega))
    have HV3 := Lib.hid (hv.far HX3.out)
    have hRB : R < B := by have := HR2.out.lt; omega
    have hAB : bA < B := by have := HG2.out.lt; omega
    have hBw : w.heap.size ≤ B := by have := HB2.out.size; omega
    have hB3s : B < w3.heap.size := HB3.out.lt
    clear b3 k3 hB3 hB4
    go_wp2_with fail
    go_loopw [21] (fun v21 wr => FldRel T S l t w3 B v21 wr) (fun v21 _ => 64 - (intOf v21).toNat)
    case atStart => exact ⟨0, fun _ => 0, by omega, rfl, HB3.out, fun i hi => absurd hi (by omega), grown_refl _ _⟩
    case round =>
      obtain ⟨k, f, hk, rfl, hb, hall, hgr⟩ := hrel
      have HB := Lib.hid hb
      have HALL := Lib.hid hall
      have HGR := Lib.hid hgr
      have HG4 := Lib.hid (HG3.out.grown hgr (by omega))
      have HBX := Lib.hid (below_grown HX3.out hgr HX3.out.size hBw)
      have HV4 := Lib.hid (hv.far HBX.out)
      clear hb hall hgr
      by_cases hlt : k < 64
      · have k1 : (k : Int) < 64 := by omega
        go_wp2_with (first | ((with_reducible refine wpList_get HG4.out Try.underlying30 rfl (by kernel_rfl) ?_ ?_); rfl) | (go_at_call 69; refine (drawdowns_any T S _ l ((k % 8 : Nat) : Int) ((k / 8 : Nat) : Int) t _ hl12 HV4.out (HD.out k hlt)).mono ?_; rintro e3 w5 ⟨v5, bl, rfl, hown5, hbl5, hb5⟩; have hF5 := flist_of hown5; have hl5 : bl.length ≤ 64 := by have := congrArg List.length hbl5; rw [List.length_map, List.length_map] at this; omega) | (go_at_call 68; refine (sum_any v5 bl _ hl5 hF5).mono ?_; rintro e4 w6 ⟨q, rfl, hq, hb6⟩; have hB6 := (HB.out.later hb5).later hb6) | ((with_reducible refine wpList_setF (k := k) (r := q) hB6 hlt ?_ ?_ ?_); rfl; rfl))
        intro w7 s7 b7 k7
        have HB7 := Lib.hid b7
        have HG7 := Lib.hid (grown_trans (grown_trans HGR.out (grown_below (below_next hb5 hb6))) k7)
        have HQ : Hid (fb q = cellSum T S l t k) := by
          show _ = _
          rw [hq.out, sumB_eq, hbl5]; rfl
        clear b7 k7 hb5 hb6 hB6 hF5 hown5 hbl5 hq
        go_wp2_with fail
        go_roundw
        case rel =>
          refine ⟨k + 1, _, by omega, by go_num, HB7.out, fun i hi => ?_, HG7.out⟩
          unfold upd
          by_cases e : i = k
          · subst e; rw [if_pos rfl]; exact HQ.out
          · rw [if_neg e]; exact HALL.out i (by omega)
        case measure => simp [intOf]; omega
      · obtain rfl : k = 64 := by omega
        have HR4 := Lib.hid (HR3.out.grown HGR.out (by omega))
        have HF : Hid (fm f = fldF T S l t) := by
          show _ = _
          funext i
          unfold fm fldF
          split
          · rename_i hi
            rw [if_pos HC.out]
            exact HALL.out i hi
          · rfl
        go_wp2_with (first | ((with_reducible refine wpList_getF HB.out ?_ ?_); rfl) | ((with_reducible refine wpList_putF (f := f) HR4.out ?_ ?_ ?_); rfl; rfl))
        intro w8 s8 b8 k8
        go_wp2_with fail
        exact ret_cell2 rfl rfl (loadF b8) rfl ⟨f, by rw [HC.out]; rfl, HF.out, below_grown HBX.out k8 HBX.out.size hRw⟩
  · have HZ := Lib.hid (fld_zero (T := T) (S := S) (l := l) (t := t) (by rw [HC.out]; exact h0))
    go_wp2_with (first | (with_reducible refine wpList_new newF ?_) | (with_reducible refine wpList_zero (zeroF _) ?_) | ((with_reducible refine wpList_putF (f := fun _ => 0) HR2.out ?_ ?_ ?_); rfl; rfl))
    intro w3 s3 b3 k3
    go_wp2_with fail
    exact ret_cell2 rfl rfl (loadF b3) rfl ⟨fun _ => 0, by rw [HC.out]; rfl, HZ.out, below_grown HB2.out k3 HB2.out.size hRw⟩

set_option maxRecDepth 100000 in
set_option maxHeartbeats 3200000 in
theorem specFieldAfter_any (T S : Nat) (v : Value) (l : List We) (t : Int) (w : World) (hlen : l.length ≤ 1048576) (hv : WAt w v l) :
    Calls Try.prog 38 #[.agg #[.float .f32 T, .float .f32 S], v, .int .i64 t] w (RetFldC (fldF T S l t) (askW (okA (fb T) (fb S)) l 0 0 [t]) w) := by
  go_enter Try.func38, Try.ntmps38
  go_wp2_with (with_reducible refine wpList_box rfl ?_)
  intro bA wA hA1 hA2 hA3 hA4
  go_wp2_with (first | (with_reducible refine wpList_new newF ?_) | (with_reducible refine wpList_zero (zeroF _) ?_))
  intro R wR hR1 hR2 hR3 hR4
  go_wp2_with (first | (with_reducible refine wpList_new newF ?_) | (with_reducible refine wpList_zero (zeroF _) ?_))
  intro B wB hB1 hB2 hB3 hB4
  go_wp2_with ((with_reducible refine wpList_putF (f := fun _ => 0) hB3 ?_ ?_ ?_); rfl; rfl)
  intro w3 s3 b3 k3
  have sA := hA4.size
  have sR := hR4.size
  have hG := Lib.hid (((hA3.later hR4).later hB4).grown k3 (by omega))
  have HR3 := Lib.hid ((hR3.later hB4).grown k3 (by omega))
  have HB3 := Lib.hid b3
  have HX3 := Lib.hid (below_grown (below_next (below_next hA4 hR4) hB4) k3 (Nat.le_trans (Nat.le_trans sA sR) hB4.size) (by omega))
  have HV0 := hv.far HX3.out
  have hRw : w.heap.size ≤ R := by omega
  have hBw : w.heap.size ≤ B := by omega
  have hRB : R < B := by omega
  have hAB : bA < B := by omega
  clear hA3 hA4 hR3 hR4 hB3 hB4 b3 k3
  go_wp2_with ((with_reducible refine wpList_get hG.out Try.underlying30 rfl (by kernel_rfl) ?_ ?_); rfl)
  obtain ⟨c, hc⟩ : ∃ c, askW (okA (fb T) (fb S)) l 0 0 [t] = c := ⟨_, rfl⟩
  have HC := Lib.hid hc
  clear hc
  refine (l03Asked_any T S _ l 0 0 t _ (by omega) HV0).mono ?_
  rw [HC.out]
  rintro e w5 ⟨rfl, hb5⟩
  have HG5 := Lib.hid (hG.out.later hb5)
  have HR5 := Lib.hid (HR3.out.later hb5)
  have HB5 := Lib.hid (HB3.out.later hb5)
  have HX5 := Lib.hid (below_next HX3.out hb5)
  have hB5s : B < w5.heap.size := HB5.out.lt
  clear hb5 HV0
  by_cases h0 : c = 0
  · subst h0
    have hl12 := (ask_down HC.out).2.2.1
    have HT : Hid (1 ≤ t ∧ t ≤ 100000) := by obtain ⟨_, _, _, _, _, h⟩ := ask_down HC.out; exact mom_of (h t (by simp))
    have HD : Hid (∀ k : Nat, k < 64 → ∀ e ∈ l, DownOk T S e.x e.y ((k % 8 : Nat) : Int) ((k / 8 : Nat) : Int) t) := fun k hk e he =>
      ⟨(ask_down HC.out).1, (well_of ((ask_down HC.out).2.1 e he)).1, (well_of ((ask_down HC.out).2.1 e he)).2, by omega, by omega, HT.out⟩
    go_wp2_with fail
    go_loopw [10] (fun v21 wr => FldRel T S l t w5 B v21 wr) (fun v21 _ => 64 - (intOf v21).toNat)
    case atStart => exact ⟨0, fun _ => 0, by omega, rfl, HB5.out, fun i hi => absurd hi (by omega), grown_refl _ _⟩
    case round =>
      obtain ⟨k, f, hk, rfl, hb, hall, hgr⟩ := hrel
      have HB := Lib.hid hb
      have HALL := Lib.hid hall
      have HGR := Lib.hid hgr
      have HG4 := Lib.hid (HG5.out.grown hgr (by omega))
      have HBX := Lib.hid (below_grown HX5.out hgr HX5.out.size hBw)
      have HV4 := Lib.hid (hv.far HBX.out)
      clear hb hall hgr
      by_cases hlt : k < 64
      · have k1 : (k : Int) < 64 := by omega
        go_wp2_with (first | ((with_reducible refine wpList_get HG4.out Try.underlying30 rfl (by kernel_rfl) ?_ ?_); rfl) | (go_at_call 72; refine (l03Drawdowns_any T S _ l ((k % 8 : Nat) : Int) ((k / 8 : Nat) : Int) t _ hl12 HV4.out (HD.out k hlt)).mono ?_; rintro e3 w6 ⟨v5, bl, rfl, hown5, hbl5, hb5⟩; have hF5 := flist_of hown5; have hl5 : bl.length ≤ 64 := by have := congrArg List.length hbl5; rw [List.length_map, List.length_map] at this; omega) | (go_at_call 71; refine (l03Sum_any v5 bl _ hl5 hF5).mono ?_; rintro e4 w7 ⟨q, rfl, hq, hb6⟩; have hB6 := (HB.out.later hb5).later hb6) | ((with_reducible refine wpList_setF (k := k) (r := q) hB6 hlt ?_ ?_ ?_); rfl; rfl))
        intro w9 s9 b7 k7
        have HB7 := Lib.hid b7
        have HG7 := Lib.hid (grown_trans (grown_trans HGR.out (grown_below (below_next hb5 hb6))) k7)
        have HQ : Hid (fb q = cellSum T S l t k) := by
          show _ = _
          rw [hq.out, sumB_eq, hbl5]; rfl
        clear b7 k7 hb5 hb6 hB6 hF5 hown5 hbl5 hq
        go_wp2_with fail
        go_roundw
        case rel =>
          refine ⟨k + 1, _, by omega, by go_num, HB7.out, fun i hi => ?_, HG7.out⟩
          unfold upd
          by_cases e : i = k
          · subst e; rw [if_pos rfl]; exact HQ.out
          · rw [if_neg e]; exact HALL.out i (by omega)
        case measure => simp [intOf]; omega
      · obtain rfl : k = 64 := by omega
        have HR4 := Lib.hid (HR5.out.grown HGR.out (by omega))
        have HF : Hid (fm f = fldF T S l t) := by
          show _ = _
          funext i
          unfold fm fldF
          split
          · rename_i hi
            rw [if_pos HC.out]
            exact HALL.out i hi
          · rfl
        go_wp2_with (first | ((with_reducible refine wpList_getF HB.out ?_ ?_); rfl) | ((with_reducible refine wpList_putF (f := f) HR4.out ?_ ?_ ?_); rfl; rfl))
        intro w10 s10 b8 k8
        go_wp2_with fail
        exact ret_cell2 rfl rfl (loadF b8) rfl ⟨f, by rw [HC.out]; rfl, HF.out, below_grown HBX.out k8 HBX.out.size hRw⟩
  · have HZ := Lib.hid (fld_zero (T := T) (S := S) (l := l) (t := t) (by rw [HC.out]; exact h0))
    go_wp2_with (first | ((with_reducible refine wpList_getF HB5.out ?_ ?_); rfl) | ((with_reducible refine wpList_putF (f := fun _ => 0) HR5.out ?_ ?_ ?_); rfl; rfl))
    intro w6 s6 b6 k6
    go_wp2_with fail
    exact ret_cell2 rfl rfl (loadF b6) rfl ⟨fun _ => 0, by rw [HC.out]; rfl, HZ.out, below_grown HX5.out k6 HX5.out.size hRw⟩
end Go.Proofs.Ytbhnnglpakdigaa
