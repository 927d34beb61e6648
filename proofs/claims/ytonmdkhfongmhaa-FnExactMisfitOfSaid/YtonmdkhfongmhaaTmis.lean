/- The misfit of an aquifer: both sides. -/
import Derived.Test.YtonmdkhfongmhaaTsz
import Derived.Deep.RegionHeld3
import Derived.Deep.AppendLies
namespace Go.Proofs.Ytonmdkhfongmhaa
open Go.RowKit

/-- The size of a difference. -/
def sizF (a : Aq) (s : Si) (r : Rd) : F := fabs (difF a s r)
/-- The misfit. -/
def misF (a : Aq) (s : Si) (l : List Rd) : F := sumX (l.map (sizF a s))
/-- What a misfit asks. -/
structure MisOk (a : Aq) (s : Si) (l : List Rd) : Prop where
  len : l.length ≤ 40
  down : ∀ r ∈ l, SiOk a s r.t
  rng : ∀ r ∈ l, r.Rng
  pl : plain (fb s.r) = true

theorem dif_fits (a : Aq) (s : Si) (r : Rd) : Fits (difF a s r) := fsub_fits _ _
def MsRel (a : Aq) (s : Si) (l : List Rd) (w : World) (v7 v8 : Value) (wr : World) : Prop :=
  ∃ (j : Nat) (bl : List Nat), j ≤ l.length ∧ v8 = .int .i64 j ∧ wr.ownsRow w.heap.size 24 1 v7 bl.length (flts bl) ∧ bl.map fb = (l.take j).map (sizF a s) ∧ Below w.heap.size w wr

set_option maxRecDepth 100000 in
set_option maxHeartbeats 3200000 in
theorem l04Misfit_any (a : Aq) (s : Si) (v : Value) (l : List Rd) (w : World) (hm : MisOk a s l) (hv : RAt w v l) :
    Calls Try.prog 66 #[.agg #[.float .f32 a.T, .float .f32 a.S], .agg s.cells, v] w (RetF (misF a s l) w) := by
  obtain ⟨i0, hi, hz0, hz1, hz2⟩ := info_parts Try.info24
  obtain ⟨aL, cap, rfl, hL⟩ := hv
  have HL := Lib.hid hL
  have HM := Lib.hid hm
  have hlen := hm.len
  clear hL hm
  go_enter Try.func66, Try.ntmps66
  go_wp2_with (with_reducible refine wpList_box rfl ?_)
  intro bA wA hA1 hA2 hA3 hA4
  go_wp2_with (with_reducible refine wpList_box rfl ?_)
  intro bS wS hS1 hS2 hS3 hS4
  have HG := Lib.hid (hA3.later hS4)
  have HSi := Lib.hid hS3
  have HBA := Lib.hid (below_next hA4 hS4)
  clear hA3 hA4 hS3 hS4
  go_wp2_with fail
  go_loopw [7, 8] (fun v7 v8 wr => MsRel a s l wS v7 v8 wr) (fun _ v8 _ => l.length - (intOf v8).toNat)
  case atStart => exact ⟨0, [], by omega, rfl, World.ownsRow_lit wS #[] 0 (Nat.le_refl _) (by simp [maxLen]) rfl, rfl, (Below.refl _ _).alloc (Nat.le_refl _) _⟩
  case round =>
    obtain ⟨j, bl, hj, rfl, hown, hbl, hBA⟩ := hrel
    have HO := Lib.hid hown
    have HBL := Lib.hid hbl
    have HBX := Lib.hid hBA
    have hbll : bl.length = j := by have := congrArg List.length hbl; rw [List.length_map, List.length_map, List.length_take] at this; omega
    clear hown hbl hBA
    by_cases hlt : j < l.length
    · obtain ⟨e, he⟩ : ∃ e, l[j]? = some e := ⟨_, List.getElem?_eq_getElem hlt⟩
      obtain ⟨hrng, gq, rfl, hq⟩ := HL.out j e he
      have hqA := range_below hq HBA.out
      have HE := Lib.hid he
      have HDE := Lib.hid (HM.out.down e (List.mem_of_getElem? he))
      have HDK := Lib.hid (dif_ok (HM.out.down e (List.mem_of_getElem? he)) hrng HM.out.pl)
      have j1 : (j : Int) < (l.length : Int) := by omega
      have hbs := HBX.out.size
      have KS : Hid (∀ w', Below wS.heap.size wS w' → w'.cell? ⟨bA, 0, none⟩ = some (.float .f32 a.T) ∧ w'.cell? ⟨bA, 1, none⟩ = some (.float .f32 a.S) ∧ w'.cell? ⟨gq, j * 2, none⟩ = some (.int .i64 e.t) ∧ w'.cell? ⟨gq, j * 2 + 1, none⟩ = some (.int .i16 e.l) ∧ w'.cell? ⟨bS, 0, none⟩ = some (.int .i8 s.x) ∧ w'.cell? ⟨bS, 1, none⟩ = some (.int .i8 s.y) ∧ w'.cell? ⟨bS, 2, none⟩ = some (.float .f32 s.r) ∧ w'.cell? ⟨bS, 3, none⟩ = some (.int .i8 s.px) ∧ w'.cell? ⟨bS, 4, none⟩ = some (.int .i8 s.py)) :=
        fun w' hb => ⟨(HG.out.later hb).at rfl, (HG.out.later hb).at rfl, cell_below hb (hqA 0 _ rfl), cell_below hb (hqA 1 _ rfl), (HSi.out.later hb).at rfl, (HSi.out.later hb).at rfl, (HSi.out.later hb).at rfl, (HSi.out.later hb).at rfl, (HSi.out.later hb).at rfl⟩
      obtain ⟨c0, c1, d0, d1, e0, e1, e2, e3, e4⟩ := KS.out wr HBX.out
      clear hq he hqA
      go_wp2_with fail
      go_region_held3 (fun w' => w'.cell? ⟨bA, 0, none⟩ = some (.float .f32 a.T) ∧ w'.cell? ⟨bA, 1, none⟩ = some (.float .f32 a.S) ∧ w'.cell? ⟨gq, j * 2, none⟩ = some (.int .i64 e.t) ∧ w'.cell? ⟨gq, j * 2 + 1, none⟩ = some (.int .i16 e.l) ∧ w'.cell? ⟨bS, 0, none⟩ = some (.int .i8 s.x) ∧ w'.cell? ⟨bS, 1, none⟩ = some (.int .i8 s.y) ∧ w'.cell? ⟨bS, 2, none⟩ = some (.float .f32 s.r) ∧ w'.cell? ⟨bS, 3, none⟩ = some (.int .i8 s.px) ∧ w'.cell? ⟨bS, 4, none⟩ = some (.int .i8 s.py)) (first | exact ⟨c0, c1, d0, d1, e0, e1, e2, e3, e4⟩ | exact KS.out _ (below_next (below_drew HBX.out) hb5) | exact KS.out _ (below_next (below_next (below_drew HBX.out) hb5) hb6) | exact KS.out _ ((below_next (below_next (below_drew HBX.out) hb5) hb6).alloc (Nat.le_trans (show wS.heap.size ≤ wr.drew.heap.size from hbs) (Nat.le_trans hb5.size hb6.size)) _) | exact KS.out _ HX7 | go_keep) (first | (go_at_call 60; refine (l04Difference_any a s e _ HDE.out).mono ?_; rintro e5 w5 ⟨q0, rfl, hq0, hb5⟩) | (go_at_call 61; refine (l03Size_exact q0 _ (by rw [hq0.out]; exact dif_fits _ _ _) (by rw [hq0.out]; exact HDK.out.2)).mono ?_; rintro e6 w6 ⟨q, rfl, hq, hb6⟩) | (refine step_append_lies _ rfl _ _ 77 rfl wS.heap.size 24 i0 (.float .f32 0) 1 4 Try.underlying77 hi hz0 hz1 hz2 rfl (by decide) _ _ _ rfl ((owns_belowN (owns_belowN (w := wr.drew) HO.out hb5) hb6).alloc _) ⟨w6.heap.size, 0, none⟩ 1 1 [.float .f32 q] rfl rfl (cell_one_new _ _ _) (by simp [Value.oneCell']) (by decide) (by unfold maxLen; omega) (by omega) (by have h9 : wS.heap.size ≤ w6.heap.size := Nat.le_trans (show wS.heap.size ≤ wr.drew.heap.size from hbs) (Nat.le_trans hb5.size hb6.size); simp; omega) _ rfl ?_; intro gA capA w7 hown7 hgrow hat hlt7; have HX7 : Below wS.heap.size wS w7 := ((below_next (below_next (below_drew HBX.out) hb5) hb6).alloc (Nat.le_trans (show wS.heap.size ≤ wr.drew.heap.size from hbs) (Nat.le_trans hb5.size hb6.size)) _).grown hgrow (by have h9 : wS.heap.size ≤ w6.heap.size := Nat.le_trans (show wS.heap.size ≤ wr.drew.heap.size from hbs) (Nat.le_trans hb5.size hb6.size); simp; omega) (fun q hq => (HO.out.lt q hq).1)))
      have HO7 := Lib.hid hown7
      have HX8 := Lib.hid HX7
      clear hown7 hgrow HX7
      go_wp2_with fail
      go_roundw
      case rel =>
        refine ⟨j + 1, bl ++ [q], by omega, by go_num, ?_, ?_, HX8.out⟩
        · rw [flts_snoc, List.length_append]; have h7 := HO7.out; show World.ownsRow _ _ _ 1 _ (bl.length + 1) _; rw [hbll] at h7 ⊢; exact h7
        · rw [List.map_append, HBL.out, take_more' HE.out, List.map_append]
          show _ ++ [fb q] = _
          rw [hq.out, hq0.out]; rfl
      case measure => simp [intOf]; omega
    · have j1 : ¬ (j : Int) < (l.length : Int) := by omega
      rw [List.take_of_length_le (by omega)] at HBL
      go_wp2_with fail
      refine (l03Sum_any _ bl wr (by omega) (flist_of HO.out)).mono ?_
      rintro e6 w6 ⟨q, rfl, hq, hb6⟩
      have HQ := Lib.hid hq
      have HB6 := Lib.hid (below_next (below_next HBA.out HBX.out) hb6)
      clear hq hb6
      go_wp2_with fail
      go_ret
      refine ⟨q, rfl, ?_, HB6.out⟩
      show fb q = _
      rw [HQ.out.out, sumB_eq, HBL.out]; rfl
end Go.Proofs.Ytonmdkhfongmhaa
