/- The differences by the program. -/
import Derived.Test.YtonmdkhfongmhaaTmis
namespace Go.Proofs.Ytonmdkhfongmhaa
open Go.RowKit

def DfRel (a : Aq) (s : Si) (l : List Rd) (w : World) (v7 v13 : Value) (wr : World) : Prop :=
  ∃ (j : Nat) (bl : List Nat), j ≤ l.length ∧ v13 = .int .i64 j ∧ wr.ownsRow w.heap.size 24 1 v7 bl.length (flts bl) ∧ bl.map fb = (l.take j).map (difF a s) ∧ Below w.heap.size w wr

set_option maxRecDepth 100000 in
set_option maxHeartbeats 3200000 in
theorem differences_any (p : Nat) (a : Aq) (s : Si) (v : Value) (l : List Rd) (w : World) (hm : MisOk a s l) (hs : Blk w p s.cells 46) (hv : RAt w v l) :
    Calls Try.prog 64 #[.pointer (some ⟨p, 0, none⟩), .agg #[.float .f32 a.T, .float .f32 a.S], v] w fun e w' => ∃ u bl, e = .returned u ∧ w'.ownsRow w.heap.size 24 1 u bl.length (flts bl) ∧ bl.map fb = l.map (difF a s) ∧ Below w.heap.size w w' := by
  obtain ⟨i0, hi, hz0, hz1, hz2⟩ := info_parts Try.info24
  obtain ⟨aL, cap, rfl, hL⟩ := hv
  have HL := Lib.hid hL
  have HM := Lib.hid hm
  have hlen := hm.len
  have HS0 := Lib.hid hs
  clear hL hm hs
  go_enter Try.func64, Try.ntmps64
  go_wp2_with (with_reducible refine wpList_box rfl ?_)
  intro bA wS hA1 hA2 hA3 hA4
  have HG := Lib.hid hA3
  have HSi := Lib.hid (HS0.out.later hA4)
  have HBA := Lib.hid hA4
  clear hA3 hA4
  go_wp2_with fail
  go_loopw [7, 13] (fun v7 v13 wr => DfRel a s l wS v7 v13 wr) (fun _ v13 _ => l.length - (intOf v13).toNat)
  case atStart => exact ⟨0, [], by omega, rfl, World.ownsRow_lit wS #[] 0 (Nat.le_refl _) (by simp [maxLen]) rfl, rfl, (Below.refl _ _).alloc (Nat.le_refl _) _⟩
  case round =>
    obtain ⟨j, bl, hj, rfl, hown, hbl, hBA⟩ := hrel
    have HO := Lib.hid hown
    have HBL := Lib.hid hbl
    have HBX := Lib.hid hBA
    have hbll : bl.length = j := by have := congrArg List.length hbl; rw [List.length_map, List.length_map, List.length_take] at this; omega
    clear hown hbl hBA
    by_cases hlt : j < l.length
    · obtain ⟨e, he⟩ : ∃ e, l[j]? = some e := ⟨_, List.getElem?_eq_getElem hlt⟩
      obtain ⟨hrng, gq, rfl, hq⟩ := HL.out j e he
      have HQ := Lib.hid (range_below (range_below hq HBA.out) HBX.out)
      have HE := Lib.hid he
      have HDE := Lib.hid (HM.out.down e (List.mem_of_getElem? he))
      have HDK := Lib.hid (dif_ok (HM.out.down e (List.mem_of_getElem? he)) hrng HM.out.pl)
      have j1 : (j : Int) < (l.length : Int) := by omega
      have hbs := HBX.out.size
      clear hq he
      go_wp2_with (first | ((with_reducible refine wpList_gateL ?_); refine wpList_load_mid rfl _ _ rfl gq (j * 2) rfl e.cells _ HQ.out Try.underlying81 rfl sizeRd ?_) | (with_reducible refine wpList_new newR ?_))
      intro B wB hB1 hB2 hB3 hB4
      have hOl : ∀ q, Value.ownBlock _ = some q → q < wr.heap.size := fun q hq => (HO.out.lt q hq).2
      have HO3 := Lib.hid (owns_belowN HO.out hB4)
      have HX3 := Lib.hid (below_next HBX.out hB4)
      clear hB4
      go_wp2_with ((with_reducible refine wpList_gateS ?_); refine wpList_put (cells := #[.int .i64 e.t, .int .i16 e.l]) hB3 sizeRd rfl (by simp [Value.oneCell']) rfl rfl ?_)
      intro w3 s3 b3 k3
      have HO4 := Lib.hid (owns_farN HO3.out k3 (fun q hq => by have := hOl q hq; omega))
      have HX4 := Lib.hid (below_grown HX3.out k3 HX3.out.size (by omega))
      have HB3 := Lib.hid b3
      clear hB3 k3 s3 b3
      have hbs4 := HX4.out.size
      have KS : Hid (∀ w', Below w3.heap.size w3 w' → w'.cell? ⟨bA, 0, none⟩ = some (.float .f32 a.T) ∧ w'.cell? ⟨bA, 1, none⟩ = some (.float .f32 a.S) ∧ w'.cell? ⟨B, 0, none⟩ = some (.int .i64 e.t) ∧ w'.cell? ⟨B, 1, none⟩ = some (.int .i16 e.l) ∧ w'.cell? ⟨p, 0, none⟩ = some (.int .i8 s.x) ∧ w'.cell? ⟨p, 1, none⟩ = some (.int .i8 s.y) ∧ w'.cell? ⟨p, 2, none⟩ = some (.float .f32 s.r) ∧ w'.cell? ⟨p, 3, none⟩ = some (.int .i8 s.px) ∧ w'.cell? ⟨p, 4, none⟩ = some (.int .i8 s.py)) :=
        fun w' hb => by
          have hb' := below_next HX4.out hb
          exact ⟨(HG.out.later hb').at rfl, (HG.out.later hb').at rfl, (HB3.out.later hb).at rfl, (HB3.out.later hb).at rfl, (HSi.out.later hb').at rfl, (HSi.out.later hb').at rfl, (HSi.out.later hb').at rfl, (HSi.out.later hb').at rfl, (HSi.out.later hb').at rfl⟩
      obtain ⟨c0, c1, d0, d1, e0, e1, e2, e3, e4⟩ := KS.out w3 (Below.refl _ _)
      obtain ⟨_, hnz⟩ := HDK.out
      have HC : Hid (∃ c, difF a s e = some c) := by obtain ⟨b', _, _, _, h1, _⟩ := HDK.out.1; exact ⟨b', h1⟩
      obtain ⟨c, hc⟩ := HC.out
      have HCC := Lib.hid hc
      clear hc hnz
      have HSP : Hid (Blk w3 p s.cells 46) := HSi.out.later HX4.out
      go_wp2_with fail
      go_region_held3 (fun w' => w'.cell? ⟨bA, 0, none⟩ = some (.float .f32 a.T) ∧ w'.cell? ⟨bA, 1, none⟩ = some (.float .f32 a.S) ∧ w'.cell? ⟨B, 0, none⟩ = some (.int .i64 e.t) ∧ w'.cell? ⟨B, 1, none⟩ = some (.int .i16 e.l) ∧ w'.cell? ⟨p, 0, none⟩ = some (.int .i8 s.x) ∧ w'.cell? ⟨p, 1, none⟩ = some (.int .i8 s.y) ∧ w'.cell? ⟨p, 2, none⟩ = some (.float .f32 s.r) ∧ w'.cell? ⟨p, 3, none⟩ = some (.int .i8 s.px) ∧ w'.cell? ⟨p, 4, none⟩ = some (.int .i8 s.py)) (first | exact ⟨c0, c1, d0, d1, e0, e1, e2, e3, e4⟩ | exact KS.out _ (below_next (below_drew (Below.refl w3.heap.size w3)) hb5) | exact KS.out _ (below_next (below_next (below_drew (Below.refl w3.heap.size w3)) hb5) hb6) | exact KS.out _ (((below_next (below_next (below_drew (Below.refl w3.heap.size w3)) hb5) hb6)).alloc (Nat.le_trans hb5.size hb6.size) _) | exact ⟨(HG.out.later HX7).at rfl, (HG.out.later HX7).at rfl, h7B.at rfl, h7B.at rfl, (HSi.out.later HX7).at rfl, (HSi.out.later HX7).at rfl, (HSi.out.later HX7).at rfl, (HSi.out.later HX7).at rfl, (HSi.out.later HX7).at rfl⟩ | go_keep) (first | (go_at_call 54; refine (LevelOf_any e.t e.l _).mono ?_; rintro e5 w5 ⟨q1, rfl, hq1, hb5⟩) | (go_at_call 77; refine (drawS_any p a s e.t _ HDE.out (HSP.out.later (below_next (below_drew (Below.refl w3.heap.size w3)) hb5))).mono ?_; rintro e6 w6 ⟨q2, rfl, hq2, hb6⟩; have hsub : ∀ w', (binOp .sub 24 (.float .f32 q1) (.float .f32 q2)).run Try.prog w' = .ok (.float .f32 c) w' := fun w' => run_arith_some (w := w') rfl (by rw [← HCC.out]; show fsub _ _ = _; rw [hq1.out, hq2.out]; rfl)) | (refine step_append_lies _ rfl _ _ 77 rfl wS.heap.size 24 i0 (.float .f32 0) 1 4 Try.underlying77 hi hz0 hz1 hz2 rfl (by decide) _ _ _ rfl ((owns_belowN (owns_belowN (w := w3.drew) HO4.out hb5) hb6).alloc _) ⟨w6.heap.size, 0, none⟩ 1 1 [.float .f32 c] rfl rfl (cell_one_new _ _ _) (by simp [Value.oneCell']) (by decide) (by unfold maxLen; omega) (by omega) (by have h9 : wS.heap.size ≤ w6.heap.size := Nat.le_trans (show wS.heap.size ≤ w3.drew.heap.size from hbs4) (Nat.le_trans hb5.size hb6.size); simp; omega) _ rfl ?_; intro gA capA w7 hown7 hgrow hat hlt7; have HX7 : Below wS.heap.size wS w7 := ((below_next (below_next (below_drew HX4.out) hb5) hb6).alloc (Nat.le_trans (show wS.heap.size ≤ w3.drew.heap.size from hbs4) (Nat.le_trans hb5.size hb6.size)) _).grown hgrow (by have h9 : wS.heap.size ≤ w6.heap.size := Nat.le_trans (show wS.heap.size ≤ w3.drew.heap.size from hbs4) (Nat.le_trans hb5.size hb6.size); simp; omega) (fun q hq => (HO4.out.lt q hq).1); have h6B := (((HB3.out.later (below_drew (Below.refl w3.heap.size w3))).later hb5).later hb6).alloc (.cells #[.float .f32 c] 24); have h7B : Blk w7 B #[.int .i64 e.t, .int .i16 e.l] 81 := (hgrow.block B h6B.lt (fun hq => by have := hOl B hq.symm; omega)).trans h6B))
      have HO7 := Lib.hid hown7
      have HX8 := Lib.hid HX7
      clear hown7 hgrow HX7
      go_wp2_with fail
      go_roundw
      case rel =>
        refine ⟨j + 1, bl ++ [c], by omega, by go_num, ?_, ?_, HX8.out⟩
        · rw [flts_snoc, List.length_append]; have h7 := HO7.out; show World.ownsRow _ _ _ 1 _ (bl.length + 1) _; rw [hbll] at h7 ⊢; exact h7
        · rw [List.map_append, HBL.out, take_more' HE.out, List.map_append]
          show _ ++ [fb c] = _ ++ [difF a s e]
          rw [HCC.out]
          have hfc : fb c = some c := by
            obtain ⟨b', s', m', e', q1', q2', _⟩ := HDK.out.1
            rw [HCC.out] at q1'
            cases q1'
            unfold fb fbOf
            rw [q2']; rfl
          rw [hfc]
      case measure => simp [intOf]; omega
    · have j1 : ¬ (j : Int) < (l.length : Int) := by omega
      rw [List.take_of_length_le (by omega)] at HBL
      go_wp2_with fail
      go_ret
      exact ⟨_, rfl, bl, owns_monoN HO.out HBA.out.size, HBL.out, below_next HBA.out HBX.out⟩
end Go.Proofs.Ytonmdkhfongmhaa
