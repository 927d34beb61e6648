/- The misfit by the program. -/
import Derived.Test.YtonmdkhfongmhaaTdifs
namespace Go.Proofs.Ytonmdkhfongmhaa
open Go.RowKit

def MiRel (a : Aq) (s : Si) (l : List Rd) (B : Nat) (w : World) (u : Value) (v15 : Value) (wr : World) : Prop :=
  ∃ (j : Nat) (bl : List Nat), j ≤ l.length ∧ v15 = .int .i64 j ∧ wr.ownsRow B 24 1 u l.length (flts bl) ∧ bl.length = l.length ∧ bl.map fb = (l.take j).map (sizF a s) ++ (l.drop j).map (difF a s) ∧ Below B w wr

set_option maxRecDepth 100000 in
set_option maxHeartbeats 3200000 in
theorem misfit_any (p : Nat) (a : Aq) (s : Si) (v : Value) (l : List Rd) (w : World) (hm : MisOk a s l) (hs : Blk w p s.cells 46) (hv : RAt w v l) :
    Calls Try.prog 67 #[.pointer (some ⟨p, 0, none⟩), .agg #[.float .f32 a.T, .float .f32 a.S], v] w (RetF (misF a s l) w) := by
  have HM := Lib.hid hm
  have HS0 := Lib.hid hs
  have HV := Lib.hid hv
  have hlen := hm.len
  clear hm hs hv
  go_enter Try.func67, Try.ntmps67
  go_wp2_with (with_reducible refine wpList_box rfl ?_)
  intro bA wA hA1 hA2 hA3 hA4
  have HBA := Lib.hid hA4
  go_wp2_with ((with_reducible refine wpList_get hA3 Try.underlying42 rfl (by kernel_rfl) ?_ ?_); rfl)
  refine (differences_any p a s v l wA HM.out (HS0.out.later hA4) (HV.out.far hA4)).mono ?_
  clear hA3 hA4
  rintro e w2 ⟨u, bl, rfl, hown, hbl, hb2⟩
  have hbll : bl.length = l.length := by have := congrArg List.length hbl; simpa using this
  rw [hbll] at hown
  obtain ⟨ua, ucap, rfl⟩ : ∃ a cap, u = .slice a l.length cap := by
    rcases hown.2 with ⟨rfl, h0⟩ | ⟨g, cap, _, rfl, _⟩
    · exact ⟨none, 0, by rw [h0]⟩
    · exact ⟨_, cap, rfl⟩
  have HO := Lib.hid hown
  have HB2 := Lib.hid hb2
  have HBL := Lib.hid hbl
  clear hown hb2 hbl
  go_wp2_with fail
  go_loopw [15] (fun v15 wr => MiRel a s l wA.heap.size wA (.slice ua l.length ucap) v15 wr) (fun v15 _ => l.length - (intOf v15).toNat)
  case atStart => exact ⟨0, bl, by omega, rfl, HO.out, hbll, by simpa using HBL.out, HB2.out⟩
  case round =>
    obtain ⟨j, bl', hj, rfl, hown, hbl', hmap, hB⟩ := hrel
    have HO := Lib.hid hown
    have HMP := Lib.hid hmap
    have HB := Lib.hid hB
    have HBl := Lib.hid hbl'
    clear hown hmap hB hbl'
    by_cases hlt : j < l.length
    · obtain ⟨e, he⟩ : ∃ e, l[j]? = some e := ⟨_, List.getElem?_eq_getElem hlt⟩
      obtain ⟨c, hc⟩ : ∃ c, bl'[j]? = some c := ⟨_, List.getElem?_eq_getElem (by rw [HBl.out]; exact hlt)⟩
      have hfc : fb c = difF a s e := by
        have h1 := congrArg (fun x : List F => x[j]?) HMP.out
        simp only [List.getElem?_map, hc, Option.map_some] at h1
        rw [List.getElem?_append_right (by simp; omega)] at h1
        have hl : ((l.take j).map (sizF a s)).length = j := by simp; omega
        rw [hl, Nat.sub_self, List.getElem?_map, List.getElem?_drop, Nat.add_zero, he] at h1
        simpa using h1
      obtain ⟨g, hg⟩ : ∃ g, ua = some ⟨g, 0, none⟩ := by
        rcases HO.out.2 with ⟨_, h0⟩ | ⟨g, cap, _, h1, _⟩
        · omega
        · exact ⟨g, by cases h1; rfl⟩
      subst hg
      have c0 : wr.cell? ⟨g, j, none⟩ = some (.float .f32 c) := by
        rw [World.ownsRow.cellAt HO.out j (by omega)]
        simp [flts, hc]
      have hgB : wA.heap.size ≤ g := (HO.out.lt g rfl).1
      have HFC := Lib.hid hfc
      have HE := Lib.hid he
      have HC := Lib.hid hc
      have j1 : (j : Int) < (l.length : Int) := by omega
      clear hfc he hc
      go_wp2_with (go_at_call 96; refine (size_any c (difF a s e) _ HFC.out (dif_fits _ _ _)).mono ?_; rintro e5 w5 ⟨q, rfl, hq, hb5⟩; have HQ := Lib.hid hq; have HO5 := Lib.hid (owns_belowN HO.out hb5); have HB5 := Lib.hid (below_next HB.out hb5); have c5 := cell_below hb5 c0; have cF := World.ownsRow.frozenAt HO5.out j; have hst : (store ⟨g, j, none⟩ (.float .f32 q)).run Try.prog w5 = .ok () (w5.setCell ⟨g, j, none⟩ (.float .f32 q)) := by rw [run_store Try.prog _ _ _ _ rfl, c5, cF]; rfl)
      go_roundw
      case rel =>
        obtain ⟨o1, o2⟩ := HO5.out.stored j (.float .f32 q)
        refine ⟨j + 1, bl'.set j q, by omega, by go_num, ?_, by rw [List.length_set]; exact HBl.out, ?_, below_grown HB5.out o2 HB5.out.size hgB⟩
        · rw [show flts (bl'.set j q) = (flts bl').set j (.float .f32 q) by simp [flts]]; exact o1
        · have hl : ((l.take j).map (sizF a s)).length = j := by simp; omega
          rw [List.map_set, HMP.out, List.set_append_right _ _ (by omega), hl, Nat.sub_self, List.drop_eq_getElem_cons (by omega), List.map_cons, List.set_cons_zero, take_more' HE.out, List.map_append, List.append_assoc]
          have : fb q = sizF a s e := HQ.out.out
          rw [this]; rfl
      case measure => simp [intOf]; omega
    · have j1 : ¬ (j : Int) < (l.length : Int) := by omega
      have HF : Hid (FListAt wr (.slice ua l.length ucap) bl') := by
        have h1 := HO.out
        rw [← HBl.out] at h1 ⊢
        exact flist_of h1
      have HB6 := Lib.hid (below_next HBA.out HB.out)
      go_wp2_with fail
      refine (sum_any _ bl' wr (by rw [HBl.out]; omega) HF.out).mono ?_
      rintro e6 w6 ⟨q, rfl, hq, hb6⟩
      have HQ := Lib.hid hq
      have HB7 := Lib.hid (below_next HB6.out hb6)
      clear hq hb6
      go_wp2_with fail
      go_ret
      refine ⟨q, rfl, ?_, HB7.out⟩
      show fb q = _
      rw [HQ.out.out, sumB_eq, HMP.out, List.take_of_length_le (by omega), List.drop_eq_nil_of_le (by omega)]
      simp [misF]
end Go.Proofs.Ytonmdkhfongmhaa
