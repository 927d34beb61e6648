/- The sum of drawdowns at a place, told with a code; the drawdowns: both sides. -/
import Derived.Test.YtbhnnglpakdigaaWlist
import Derived.Test.YtbhnnglpakdigaaWrec
namespace Go.Proofs.Ytbhnnglpakdigaa
open Go.RowKit

/-- A list of floats in new memory and a code are handed back. -/
def RetFLZ (xs : List F) (z : Int) (w : World) (e : Ending) (w' : World) : Prop := ∃ v bl, e = .returned (.tuple #[v, .int .i64 z]) ∧ w'.ownsRow w.heap.size 22 1 v bl.length (flts bl) ∧ bl.map fb = xs ∧ Below w.heap.size w w'
def sumR (T S : Nat) (l : List We) (x y t : Int) : F × Int :=
  if askW (okA (fb T) (fb S)) l x y [t] = 0 then (sumX (l.map (downW T S x y t)), 0) else (some 0, askW (okA (fb T) (fb S)) l x y [t])
def dsR (T S : Nat) (l : List We) (x y t : Int) : List F := if askW (okA (fb T) (fb S)) l x y [t] = 0 then l.map (downW T S x y t) else []
theorem fowns_nil (w : World) (base : Nat) (T : TypeId) : w.ownsRow base T 1 (.slice none 0 0) ([] : List Nat).length (flts []) := ⟨rfl, .inl ⟨rfl, rfl⟩⟩

set_option maxRecDepth 100000 in
set_option maxHeartbeats 1600000 in
theorem SumAt_any (T S : Nat) (v : Value) (l : List We) (x y t : Int) (w : World) (hlen : l.length ≤ 1048576) (hv : WAt w v l) :
    Calls Try.prog 29 #[.agg #[.float .f32 T, .float .f32 S], v, .int .i64 x, .int .i64 y, .int .i64 t] w (RetRec (sumR T S l x y t) w) := by
  go_enter Try.func29, Try.ntmps29
  go_wp2_with (with_reducible refine wpList_box rfl ?_)
  intro bA wA hA1 hA2 hA3 hA4
  have HG := Lib.hid hA3
  have HBA := Lib.hid hA4
  go_wp2_with ((with_reducible refine wpList_get hA3 Try.underlying30 rfl (by kernel_rfl) ?_ ?_); rfl)
  obtain ⟨c, hc⟩ : ∃ c, askW (okA (fb T) (fb S)) l x y [t] = c := ⟨_, rfl⟩
  have HC := Lib.hid hc
  clear hc
  refine (momentsFault_any T S _ _ l x y [t] _ (by omega) ((hv.far hA4).far ((Below.refl _ _).alloc (Nat.le_refl _) _)) (by simp) (tat_list (ts := [t]) (Blk.new' wA _ _ rfl))).mono ?_
  rw [HC.out]
  rintro e w2 ⟨rfl, hb2⟩
  have HG2 := Lib.hid ((HG.out.alloc _).later hb2)
  have HB2 := Lib.hid (below_next (HBA.out.alloc HBA.out.size _) hb2)
  have HV := Lib.hid (hv.far HB2.out)
  clear hb2 hA3 hA4
  by_cases h0 : c = 0
  · subst h0
    have hl12 := (ask_down HC.out).2.2.1
    have HD : Hid (∀ e ∈ l, DownOk T S e.x e.y x y t) := fun e he => down_of HC.out he (by obtain ⟨_, _, _, _, _, h⟩ := ask_down HC.out; exact mom_of (h t (by simp)))
    have HR : Hid (sumR T S l x y t = (sumX (l.map (downW T S x y t)), 0)) := by show (if _ then _ else _) = _; rw [if_pos HC.out]
    go_wp2_with (first | ((with_reducible refine wpList_get HG2.out Try.underlying30 rfl (by kernel_rfl) ?_ ?_); rfl) | (go_at_call 69; refine (drawdowns_any T S _ l x y t _ hl12 HV.out HD.out).mono ?_; rintro e3 w3 ⟨v3, bl, rfl, hown3, hbl3, hb3⟩; have hF3 := flist_of hown3; have hl3 : bl.length ≤ 64 := by have := congrArg List.length hbl3; rw [List.length_map, List.length_map] at this; omega) | (go_at_call 68; refine (sum_any v3 bl _ hl3 hF3).mono ?_; rintro e4 w4 ⟨q, rfl, hq, hb4⟩))
    go_ret2
    refine ⟨q, by rw [HR.out]; rfl, ?_, below_next (below_next HB2.out hb3) hb4⟩
    rw [HR.out]
    show fb q = _
    rw [hq.out, sumB_eq, hbl3]
  · have HR : Hid (sumR T S l x y t = (some 0, c)) := by show (if _ then _ else _) = _; rw [HC.out, if_neg h0]
    go_wp2_with fail
    go_ret2
    exact ⟨0, by rw [HR.out]; rfl, by rw [HR.out]; exact fb0, HB2.out⟩

set_option maxRecDepth 100000 in
set_option maxHeartbeats 1600000 in
theorem specSumAt_any (T S : Nat) (v : Value) (l : List We) (x y t : Int) (w : World) (hlen : l.length ≤ 1048576) (hv : WAt w v l) :
    Calls Try.prog 32 #[.agg #[.float .f32 T, .float .f32 S], v, .int .i64 x, .int .i64 y, .int .i64 t] w (RetRec (sumR T S l x y t) w) := by
  go_enter Try.func32, Try.ntmps32
  go_wp2_with (with_reducible refine wpList_box rfl ?_)
  intro bA wA hA1 hA2 hA3 hA4
  have HG := Lib.hid hA3
  have HBA := Lib.hid hA4
  go_wp2_with ((with_reducible refine wpList_get hA3 Try.underlying30 rfl (by kernel_rfl) ?_ ?_); rfl)
  obtain ⟨c, hc⟩ : ∃ c, askW (okA (fb T) (fb S)) l x y [t] = c := ⟨_, rfl⟩
  have HC := Lib.hid hc
  clear hc
  refine (l03Asked_any T S _ l x y t _ (by omega) (hv.far hA4)).mono ?_
  rw [HC.out]
  rintro e w2 ⟨rfl, hb2⟩
  have HG2 := Lib.hid (HG.out.later hb2)
  have HB2 := Lib.hid (below_next HBA.out hb2)
  have HV := Lib.hid (hv.far HB2.out)
  clear hb2 hA3 hA4
  by_cases h0 : c = 0
  · subst h0
    have hl12 := (ask_down HC.out).2.2.1
    have HD : Hid (∀ e ∈ l, DownOk T S e.x e.y x y t) := fun e he => down_of HC.out he (by obtain ⟨_, _, _, _, _, h⟩ := ask_down HC.out; exact mom_of (h t (by simp)))
    have HR : Hid (sumR T S l x y t = (sumX (l.map (downW T S x y t)), 0)) := by show (if _ then _ else _) = _; rw [if_pos HC.out]
    go_wp2_with (first | ((with_reducible refine wpList_get HG2.out Try.underlying30 rfl (by kernel_rfl) ?_ ?_); rfl) | (go_at_call 72; refine (l03Drawdowns_any T S _ l x y t _ hl12 HV.out HD.out).mono ?_; rintro e3 w3 ⟨v3, bl, rfl, hown3, hbl3, hb3⟩; have hF3 := flist_of hown3; have hl3 : bl.length ≤ 64 := by have := congrArg List.length hbl3; rw [List.length_map, List.length_map] at this; omega) | (go_at_call 71; refine (l03Sum_any v3 bl _ hl3 hF3).mono ?_; rintro e4 w4 ⟨q, rfl, hq, hb4⟩))
    go_ret2
    refine ⟨q, by rw [HR.out]; rfl, ?_, below_next (below_next HB2.out hb3) hb4⟩
    rw [HR.out]
    show fb q = _
    rw [hq.out, sumB_eq, hbl3]
  · have HR : Hid (sumR T S l x y t = (some 0, c)) := by show (if _ then _ else _) = _; rw [HC.out, if_neg h0]
    go_wp2_with fail
    go_ret2
    exact ⟨0, by rw [HR.out]; rfl, by rw [HR.out]; exact fb0, HB2.out⟩

set_option maxRecDepth 100000 in
set_option maxHeartbeats 1600000 in
theorem DrawdownsAt_any (T S : Nat) (v : Value) (l : List We) (x y t : Int) (w : World) (hlen : l.length ≤ 1048576) (hv : WAt w v l) :
    Calls Try.prog 42 #[.agg #[.float .f32 T, .float .f32 S], v, .int .i64 x, .int .i64 y, .int .i64 t] w (RetFLZ (dsR T S l x y t) (askW (okA (fb T) (fb S)) l x y [t]) w) := by
  go_enter Try.func42, Try.ntmps42
  go_wp2_with (with_reducible refine wpList_box rfl ?_)
  intro bA wA hA1 hA2 hA3 hA4
  have HG := Lib.hid hA3
  have HBA := Lib.hid hA4
  go_wp2_with ((with_reducible refine wpList_get hA3 Try.underlying30 rfl (by kernel_rfl) ?_ ?_); rfl)
  obtain ⟨c, hc⟩ : ∃ c, askW (okA (fb T) (fb S)) l x y [t] = c := ⟨_, rfl⟩
  have HC := Lib.hid hc
  clear hc
  refine (momentsFault_any T S _ _ l x y [t] _ (by omega) ((hv.far hA4).far ((Below.refl _ _).alloc (Nat.le_refl _) _)) (by simp) (tat_list (ts := [t]) (Blk.new' wA _ _ rfl))).mono ?_
  rw [HC.out]
  rintro e w2 ⟨rfl, hb2⟩
  have HG2 := Lib.hid ((HG.out.alloc _).later hb2)
  have HB2 := Lib.hid (below_next (HBA.out.alloc HBA.out.size _) hb2)
  have HV := Lib.hid (hv.far HB2.out)
  clear hb2 hA3 hA4
  by_cases h0 : c = 0
  · subst h0
    have hl12 := (ask_down HC.out).2.2.1
    have HD : Hid (∀ e ∈ l, DownOk T S e.x e.y x y t) := fun e he => down_of HC.out he (by obtain ⟨_, _, _, _, _, h⟩ := ask_down HC.out; exact mom_of (h t (by simp)))
    have HR : Hid (dsR T S l x y t = l.map (downW T S x y t)) := by show (if _ then _ else _) = _; rw [if_pos HC.out]
    go_wp2_with (first | ((with_reducible refine wpList_get HG2.out Try.underlying30 rfl (by kernel_rfl) ?_ ?_); rfl) | (go_at_call 69; refine (drawdowns_any T S _ l x y t _ hl12 HV.out HD.out).mono ?_; rintro e3 w3 ⟨v3, bl, rfl, hown3, hbl3, hb3⟩))
    go_ret2
    exact ⟨v3, bl, by rw [HC.out]; rfl, owns_mono hown3 HB2.out.size, by rw [HR.out]; exact hbl3, below_next HB2.out hb3⟩
  · have HR : Hid (dsR T S l x y t = []) := by show (if _ then _ else _) = _; rw [HC.out, if_neg h0]
    go_wp2_with fail
    go_ret2
    exact ⟨_, [], by rw [HC.out]; rfl, by exact fowns_nil _ _ _, by rw [HR.out]; rfl, HB2.out⟩

set_option maxRecDepth 100000 in
set_option maxHeartbeats 1600000 in
theorem specDrawdownsAt_any (T S : Nat) (v : Value) (l : List We) (x y t : Int) (w : World) (hlen : l.length ≤ 1048576) (hv : WAt w v l) :
    Calls Try.prog 41 #[.agg #[.float .f32 T, .float .f32 S], v, .int .i64 x, .int .i64 y, .int .i64 t] w (RetFLZ (dsR T S l x y t) (askW (okA (fb T) (fb S)) l x y [t]) w) := by
  go_enter Try.func41, Try.ntmps41
  go_wp2_with (with_reducible refine wpList_box rfl ?_)
  intro bA wA hA1 hA2 hA3 hA4
  have HG := Lib.hid hA3
  have HBA := Lib.hid hA4
  go_wp2_with ((with_reducible refine wpList_get hA3 Try.underlying30 rfl (by kernel_rfl) ?_ ?_); rfl)
  obtain ⟨c, hc⟩ : ∃ c, askW (okA (fb T) (fb S)) l x y [t] = c := ⟨_, rfl⟩
  have HC := Lib.hid hc
  clear hc
  refine (l03Asked_any T S _ l x y t _ (by omega) (hv.far hA4)).mono ?_
  rw [HC.out]
  rintro e w2 ⟨rfl, hb2⟩
  have HG2 := Lib.hid (HG.out.later hb2)
  have HB2 := Lib.hid (below_next HBA.out hb2)
  have HV := Lib.hid (hv.far HB2.out)
  clear hb2 hA3 hA4
  by_cases h0 : c = 0
  · subst h0
    have hl12 := (ask_down HC.out).2.2.1
    have HD : Hid (∀ e ∈ l, DownOk T S e.x e.y x y t) := fun e he => down_of HC.out he (by obtain ⟨_, _, _, _, _, h⟩ := ask_down HC.out; exact mom_of (h t (by simp)))
    have HR : Hid (dsR T S l x y t = l.map (downW T S x y t)) := by show (if _ then _ else _) = _; rw [if_pos HC.out]
    go_wp2_with (first | ((with_reducible refine wpList_get HG2.out Try.underlying30 rfl (by kernel_rfl) ?_ ?_); rfl) | (go_at_call 72; refine (l03Drawdowns_any T S _ l x y t _ hl12 HV.out HD.out).mono ?_; rintro e3 w3 ⟨v3, bl, rfl, hown3, hbl3, hb3⟩))
    go_ret2
    exact ⟨v3, bl, by rw [HC.out]; rfl, owns_mono hown3 HB2.out.size, by rw [HR.out]; exact hbl3, below_next HB2.out hb3⟩
  · have HR : Hid (dsR T S l x y t = []) := by show (if _ then _ else _) = _; rw [HC.out, if_neg h0]
    go_wp2_with fail
    go_ret2
    exact ⟨_, [], by rw [HC.out]; rfl, by exact World.ownsRow_lit _ #[] 0 HB2.out.size (by simp [maxLen]) rfl, by rw [HR.out]; rfl, HB2.out.alloc HB2.out.size _⟩

end Go.Proofs.Ytbhnnglpakdigaa
