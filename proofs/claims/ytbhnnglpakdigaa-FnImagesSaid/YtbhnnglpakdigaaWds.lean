/- The drawdowns of several wells: both sides. -/
import Derived.Test.YtbhnnglpakdigaaWtime
import Derived.Test.YtbhnnglpakdigaaFlist
import Derived.Deep.RegionHeld3
import Derived.Deep.AppendLies
namespace Go.Proofs.Ytbhnnglpakdigaa
open Go.RowKit

/-- A list of floats in new memory is handed back. -/
def RetFL (xs : List F) (w : World) (e : Ending) (w' : World) : Prop := ∃ v bl, e = .returned v ∧ w'.ownsRow w.heap.size 22 1 v bl.length (flts bl) ∧ bl.map fb = xs ∧ Below w.heap.size w w'
/-- The drawdown of a well of a list. -/
def downW (T S : Nat) (x y t : Int) (e : We) : F := downF (fb T) (fb S) (fb e.r) (x - e.x) (y - e.y) t

theorem owns_far {w w' : World} {base r : Nat} {T : TypeId} {v : Value} {n : Nat} {xs : List Value} (h : w.ownsRow base T 1 v n xs) (hg : w.grownBy w' (some r)) (hne : ∀ q, v.ownBlock = some q → q ≠ r) : w'.ownsRow base T 1 v n xs := by
  obtain ⟨h1, h2⟩ := h
  refine ⟨h1, h2.imp id fun ⟨g, cap, cur, e, hb, hc, rest⟩ => ⟨g, cap, cur, e, hb, ?_, rest⟩⟩
  subst e
  have := hne g rfl
  exact (hg.block g (Array.getElem?_eq_some_iff.1 hc).1 (by simpa using this)).trans hc

def DsRel (T S : Nat) (l : List We) (x y t : Int) (w : World) (v11 v17 : Value) (wr : World) : Prop :=
  ∃ (j : Nat) (bl : List Nat), j ≤ l.length ∧ v17 = .int .i64 j ∧ wr.ownsRow w.heap.size 22 1 v11 bl.length (flts bl) ∧ bl.map fb = (l.take j).map (downW T S x y t) ∧ Below w.heap.size w wr
theorem owns_mono {w : World} {base base' : Nat} {T : TypeId} {v : Value} {n : Nat} {xs : List Value} (h : w.ownsRow base' T 1 v n xs) (hb : base ≤ base') : w.ownsRow base T 1 v n xs := by
  obtain ⟨h1, h2⟩ := h
  exact ⟨h1, h2.imp id fun ⟨g, cap, cur, e, hg, rest⟩ => ⟨g, cap, cur, e, Nat.le_trans hb hg, rest⟩⟩
theorem below_drew {B : Nat} {a w : World} (h : Below B a w) : Below B a w.drew := ⟨h.os, h.tape, h.output, h.size, h.block⟩
theorem newWell (w : World) : (Instr.alloc 32 true (.tuple #[])).run Try.prog w = .ok (.pointer (some ⟨w.heap.size, 0, none⟩)) (w.alloc (.cells #[.int .i8 0, .int .i8 0, .float .f32 0] 32)) := by kernel_rfl

set_option maxRecDepth 100000 in
set_option maxHeartbeats 3200000 in
theorem drawdowns_any (T S : Nat) (v : Value) (l : List We) (x y t : Int) (w : World) (hlen : l.length ≤ 12) (hv : WAt w v l) (hd : ∀ e ∈ l, DownOk T S e.x e.y x y t) :
    Calls Try.prog 69 #[.agg #[.float .f32 T, .float .f32 S], v, .int .i64 x, .int .i64 y, .int .i64 t] w (RetFL (l.map (downW T S x y t)) w) := by
  obtain ⟨i0, hi, hz0, hz1, hz2⟩ := info_parts Try.info22
  obtain ⟨aL, cap, rfl, hL⟩ := hv
  have HL := Lib.hid hL
  have HD := Lib.hid hd
  clear hL hd
  go_enter Try.func69, Try.ntmps69
  go_wp2_with (with_reducible refine wpList_box rfl ?_)
  intro bA wA hA1 hA2 hA3 hA4
  have HG := Lib.hid hA3
  have HBA := Lib.hid hA4
  clear hA3 hA4
  go_wp2_with fail
  go_loopw [11, 17] (fun v11 v17 wr => DsRel T S l x y t wA v11 v17 wr) (fun _ v17 _ => l.length - (intOf v17).toNat)
  case atStart => exact ⟨0, [], by omega, rfl, World.ownsRow_lit wA #[] 0 (Nat.le_refl _) (by simp [maxLen]) rfl, rfl, (Below.refl _ _).alloc (Nat.le_refl _) _⟩
  case round =>
    obtain ⟨j, bl, hj, rfl, hown, hbl, hBA⟩ := hrel
    have HO := Lib.hid hown
    have HBL := Lib.hid hbl
    have HBX := Lib.hid hBA
    have HG1 := Lib.hid (HG.out.later hBA)
    have hbll : bl.length = j := by have := congrArg List.length hbl; rw [List.length_map, List.length_map, List.length_take] at this; omega
    clear hown hbl hBA
    by_cases hlt : j < l.length
    · obtain ⟨e, he⟩ : ∃ e, l[j]? = some e := ⟨_, List.getElem?_eq_getElem hlt⟩
      obtain ⟨hrng, gq, rfl, hq⟩ := HL.out j e he
      have HQ := Lib.hid (range_below (range_below hq HBA.out) HBX.out)
      have HE := Lib.hid he
      have HDE := Lib.hid (HD.out e (List.mem_of_getElem? he))
      have j1 : (j : Int) < (l.length : Int) := by omega
      have hbs := HBX.out.size
      clear hq he
      go_wp2_with (first | ((with_reducible refine wpList_gateL ?_); refine wpList_load_mid rfl _ _ rfl gq (j * 3) rfl e.cells _ HQ.out Try.underlying32 rfl sizeWell ?_) | (with_reducible refine wpList_new newWell ?_))
      intro B wB hB1 hB2 hB3 hB4
      go_wp2_with ((with_reducible refine wpList_gateS ?_); refine wpList_put (cells := #[.int .i8 e.x, .int .i8 e.y, .float .f32 e.r]) hB3 sizeWell rfl (by simp [Value.oneCell']) rfl rfl ?_)
      intro w3 s3 b3 k3
      have HG3 := Lib.hid ((HG1.out.later hB4).grown k3 (by have := HG1.out.lt; omega))
      have HX3 := Lib.hid (below_grown (below_next HBX.out hB4) k3 (Nat.le_trans hbs hB4.size) (by omega))
      have HO3 := Lib.hid (owns_far (owns_below HO.out hB4) k3 (fun q hq => by have := (HO.out.lt q hq).2; omega))
      have hbs3 := HX3.out.size
      clear hB3 hB4 k3
      go_wp2_with (first | ((with_reducible refine wpList_get HG3.out Try.underlying30 rfl (by kernel_rfl) ?_ ?_); rfl) | ((with_reducible refine wpList_get b3 Try.underlying32 rfl (by kernel_rfl) ?_ ?_); rfl) | (go_at_call 54; refine (drawdown_any T S e.r e.x e.y x y t _ HDE.out).mono ?_; rintro e5 w5 ⟨q, rfl, hq, hb5⟩; have hown5 := owns_below HO3.out hb5; have hbs5 := hb5.size) | (at_builtin; refine wpList_append_own _ rfl _ _ 71 rfl wA.heap.size 22 i0 (.float .f32 0) 1 4 Try.underlying71 hi hz0 hz1 hz2 rfl (by decide) _ _ _ rfl (hown5.alloc _) ⟨w5.heap.size, 0, none⟩ 1 1 [.float .f32 q] rfl rfl (cell_one_new _ _ _) (by simp [Value.oneCell']) (by unfold maxLen; omega) (by omega) (by simp; omega) ?_))
      intro v' w7 hown7 hgrow _
      have HO7 := Lib.hid hown7
      have HX7 : Hid (Below wA.heap.size wA w7) := ((below_next HX3.out hb5).alloc (by omega) _).grown hgrow (by simp; omega) (fun q hq => (HO.out.lt q hq).1)
      clear hown7 hgrow hown5
      go_wp2_with fail
      go_roundw
      case rel =>
        refine ⟨j + 1, bl ++ [q], by omega, by go_num, ?_, ?_, HX7.out⟩
        · rw [flts_snoc, List.length_append]; show w7.ownsRow _ _ 1 v' (bl.length + 1) _; rw [hbll]; exact HO7.out
        · rw [List.map_append, HBL.out, take_more' HE.out, List.map_append]
          show _ ++ [fb q] = _
          rw [hq.out]; rfl
      case measure => simp [intOf]; omega
    · have j1 : ¬ (j : Int) < (l.length : Int) := by omega
      rw [List.take_of_length_le (by omega)] at HBL
      go_wp2_with fail
      go_ret
      exact ⟨_, bl, rfl, owns_mono HO.out HBA.out.size, HBL.out, below_next HBA.out HBX.out⟩

set_option maxRecDepth 100000 in
set_option maxHeartbeats 3200000 in
theorem l03Drawdowns_any (T S : Nat) (v : Value) (l : List We) (x y t : Int) (w : World) (hlen : l.length ≤ 12) (hv : WAt w v l) (hd : ∀ e ∈ l, DownOk T S e.x e.y x y t) :
    Calls Try.prog 72 #[.agg #[.float .f32 T, .float .f32 S], v, .int .i64 x, .int .i64 y, .int .i64 t] w (RetFL (l.map (downW T S x y t)) w) := by
  obtain ⟨i0, hi, hz0, hz1, hz2⟩ := info_parts Try.info22
  obtain ⟨aL, cap, rfl, hL⟩ := hv
  have HL := Lib.hid hL
  have HD := Lib.hid hd
  clear hL hd
  go_enter Try.func72, Try.ntmps72
  go_wp2_with (with_reducible refine wpList_box rfl ?_)
  intro bA wA hA1 hA2 hA3 hA4
  have HG := Lib.hid hA3
  have HBA := Lib.hid hA4
  clear hA3 hA4
  go_wp2_with fail
  go_loopw [11, 12] (fun v11 v17 wr => DsRel T S l x y t wA v11 v17 wr) (fun _ v17 _ => l.length - (intOf v17).toNat)
  case atStart => exact ⟨0, [], by omega, rfl, World.ownsRow_lit wA #[] 0 (Nat.le_refl _) (by simp [maxLen]) rfl, rfl, (Below.refl _ _).alloc (Nat.le_refl _) _⟩
  case round =>
    obtain ⟨j, bl, hj, rfl, hown, hbl, hBA⟩ := hrel
    have HO := Lib.hid hown
    have HBL := Lib.hid hbl
    have HBX := Lib.hid hBA
    have HG1 := Lib.hid (HG.out.later hBA)
    have hbll : bl.length = j := by have := congrArg List.length hbl; rw [List.length_map, List.length_map, List.length_take] at this; omega
    clear hown hbl hBA
    by_cases hlt : j < l.length
    · obtain ⟨e, he⟩ : ∃ e, l[j]? = some e := ⟨_, List.getElem?_eq_getElem hlt⟩
      obtain ⟨hrng, gq, rfl, hq⟩ := HL.out j e he
      have hqA := range_below hq HBA.out
      have HE := Lib.hid he
      have HDE := Lib.hid (HD.out e (List.mem_of_getElem? he))
      have j1 : (j : Int) < (l.length : Int) := by omega
      have hbs := HBX.out.size
      have KS : Hid (∀ w', Below wA.heap.size wA w' → w'.cell? ⟨bA, 0, none⟩ = some (.float .f32 T) ∧ w'.cell? ⟨bA, 1, none⟩ = some (.float .f32 S) ∧ w'.cell? ⟨gq, j * 3, none⟩ = some (.int .i8 e.x) ∧ w'.cell? ⟨gq, j * 3 + 1, none⟩ = some (.int .i8 e.y) ∧ w'.cell? ⟨gq, j * 3 + 2, none⟩ = some (.float .f32 e.r)) :=
        fun w' hb => ⟨(HG.out.later hb).at rfl, (HG.out.later hb).at rfl, cell_below hb (hqA 0 _ rfl), cell_below hb (hqA 1 _ rfl), cell_below hb (hqA 2 _ rfl)⟩
      obtain ⟨c0, c1, d0, d1, d2⟩ := KS.out wr HBX.out
      clear hq he hqA
      go_wp2_with fail
      go_region_held3 (fun w' => w'.cell? ⟨bA, 0, none⟩ = some (.float .f32 T) ∧ w'.cell? ⟨bA, 1, none⟩ = some (.float .f32 S) ∧ w'.cell? ⟨gq, j * 3, none⟩ = some (.int .i8 e.x) ∧ w'.cell? ⟨gq, j * 3 + 1, none⟩ = some (.int .i8 e.y) ∧ w'.cell? ⟨gq, j * 3 + 2, none⟩ = some (.float .f32 e.r)) (first | exact ⟨c0, c1, d0, d1, d2⟩ | exact KS.out _ (below_next (below_drew HBX.out) hb5) | exact KS.out _ ((below_next (below_drew HBX.out) hb5).alloc (Nat.le_trans (show wA.heap.size ≤ wr.drew.heap.size from hbs) hb5.size) _) | exact KS.out _ HX7 | go_keep) (first | (go_at_call 51; refine (l03Drawdown_any T S e.r e.x e.y x y t _ HDE.out).mono ?_; rintro e5 w5 ⟨q, rfl, hq, hb5⟩) | (refine step_append_lies _ rfl _ _ 71 rfl wA.heap.size 22 i0 (.float .f32 0) 1 4 Try.underlying71 hi hz0 hz1 hz2 rfl (by decide) _ _ _ rfl ((owns_below (w := wr.drew) HO.out hb5).alloc _) ⟨w5.heap.size, 0, none⟩ 1 1 [.float .f32 q] rfl rfl (cell_one_new _ _ _) (by simp [Value.oneCell']) (by decide) (by unfold maxLen; omega) (by omega) (by have h9 : wA.heap.size ≤ w5.heap.size := Nat.le_trans (show wA.heap.size ≤ wr.drew.heap.size from hbs) hb5.size; simp; omega) _ rfl ?_; intro gA capA w7 hown7 hgrow hat hlt7; have HX7 : Below wA.heap.size wA w7 := ((below_next (below_drew HBX.out) hb5).alloc (Nat.le_trans (show wA.heap.size ≤ wr.drew.heap.size from hbs) hb5.size) _).grown hgrow (by have h9 : wA.heap.size ≤ w5.heap.size := Nat.le_trans (show wA.heap.size ≤ wr.drew.heap.size from hbs) hb5.size; simp; omega) (fun q hq => (HO.out.lt q hq).1)))
      have HO7 := Lib.hid hown7
      have HX8 := Lib.hid HX7
      clear hown7 hgrow HX7
      go_wp2_with fail
      go_roundw
      case rel =>
        refine ⟨j + 1, bl ++ [q], by omega, by go_num, ?_, ?_, HX8.out⟩
        · rw [flts_snoc, List.length_append]; have h7 := HO7.out; show World.ownsRow _ _ _ 1 _ (bl.length + 1) _; rw [hbll] at h7 ⊢; exact h7
        · rw [List.map_append, HBL.out, take_more' HE.out, List.map_append]
          show _ ++ [fb q] = _
          rw [hq.out]; rfl
      case measure => simp [intOf]; omega
    · have j1 : ¬ (j : Int) < (l.length : Int) := by omega
      rw [List.take_of_length_le (by omega)] at HBL
      go_wp2_with fail
      go_ret
      exact ⟨_, bl, rfl, owns_mono HO.out HBA.out.size, HBL.out, below_next HBA.out HBX.out⟩
end Go.Proofs.Ytbhnnglpakdigaa
