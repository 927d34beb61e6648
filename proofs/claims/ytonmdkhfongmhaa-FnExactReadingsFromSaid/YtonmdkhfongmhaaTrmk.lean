/- Marks in lists of readings that are a call's own. -/
import Derived.Test.YtonmdkhfongmhaaTsmo
namespace Go.Proofs.Ytonmdkhfongmhaa
open Go.RowKit

/-- A list of readings that holds 1, 2, .. -/
def RCnt (w : World) (v : Value) (n : Nat) : Prop :=
  ∃ a cap, v = .slice a n cap ∧ ∀ j : Nat, j < n → ∃ gq, a = some ⟨gq, 0, none⟩ ∧ w.cell? ⟨gq, j * 2, none⟩ = some (.int .i64 (1 + 2 * (j : Int))) ∧ w.cell? ⟨gq, j * 2 + 1, none⟩ = some (.int .i16 (1 + 2 * (j : Int) + 1))
theorem RCnt.far {w2 w' : World} {v : Value} {n : Nat} (h : RCnt w2 v n) (hb : Below w2.heap.size w2 w') : RCnt w' v n := by
  obtain ⟨a, cap, e, hL⟩ := h
  refine ⟨a, cap, e, fun j hj => ?_⟩
  obtain ⟨gq, e2, hq, hq2⟩ := hL j hj
  exact ⟨gq, e2, cell_below hb hq, cell_below hb hq2⟩
def RHeldRel (n : Nat) (w : World) (v1 v5 : Value) (wr : World) : Prop := ∃ j : Nat, j ≤ n ∧ v5 = .int .i64 j ∧ v1 = .int .i64 (1 + 2 * (j : Int)) ∧ w = wr

set_option maxRecDepth 100000 in
set_option maxHeartbeats 800000 in
theorem heldReads_any (v : Value) (n : Nat) (w : World) (hn : n ≤ 40) (hv : RCnt w v n) :
    Calls Try.prog 30 #[v, .int .i64 1] w fun e w' => e = .returned (.int .i64 (1 + 2 * (n : Int))) ∧ w = w' := by
  obtain ⟨aL, cap, rfl, hL⟩ := hv
  have HL := Lib.hid hL
  clear hL
  go_enter Try.func30, Try.ntmps30
  go_wp2_with fail
  go_loopw [1, 5] (fun v1 v5 wr => RHeldRel n w v1 v5 wr) (fun _ v5 _ => n - (intOf v5).toNat)
  case atStart => exact ⟨0, by omega, rfl, by simp, rfl⟩
  case round =>
    obtain ⟨j, hj, rfl, rfl, rfl⟩ := hrel
    by_cases hlt : j < n
    · obtain ⟨gq, rfl, h1, h2⟩ := HL.out j hlt
      have j1 : (j : Int) < (n : Int) := by omega
      have e1 : IntKind.i16.wrap (1 + 2 * (j : Int) + 1) = 1 + 2 * (j : Int) + 1 := IntWalk.i16_in _ (by omega)
      have e2 : IntKind.i64.wrap (1 + 2 * (j : Int) + 1) = 1 + 2 * (j : Int) + 1 := IntWalk.i64_in _ (by omega)
      go_wp2_with fail
      go_roundw
      case rel => exact ⟨j + 1, by omega, by go_num, by go_num, rfl⟩
      case measure => simp [intOf]; omega
    · obtain rfl : j = n := by omega
      have j1 : ¬ (j : Int) < (j : Int) := by omega
      go_wp2_with fail
      go_ret
      exact ⟨rfl, rfl⟩

def RMarkRel (n g cap : Nat) (w : World) (v1 v5 : Value) (wr : World) : Prop :=
  ∃ (j : Nat) (cur : Array Value), j ≤ n ∧ v5 = .int .i64 j ∧ v1 = .int .i64 (1 + 2 * (j : Int)) ∧ Blk wr g cur 81 ∧ cur.size = cap * 2 ∧
    (∀ i : Nat, i < j → cur[i * 2]? = some (.int .i64 (1 + 2 * (i : Int))) ∧ cur[i * 2 + 1]? = some (.int .i16 (1 + 2 * (i : Int) + 1))) ∧ w.grownBy wr (some g)

set_option maxRecDepth 100000 in
set_option maxHeartbeats 1600000 in
theorem markReads_any (g cap n : Nat) (cur0 : Array Value) (w : World) (hn : n ≤ 40) (hcap : n ≤ cap) (hsz : cur0.size = cap * 2) (hg : Blk w g cur0 81) :
    Calls Try.prog 29 #[.slice (some ⟨g, 0, none⟩) n cap, .int .i64 1] w fun e w' => e = .returned (.int .i64 (1 + 2 * (n : Int))) ∧ RCnt w' (.slice (some ⟨g, 0, none⟩) n cap) n ∧ w.grownBy w' (some g) := by
  have HG0 := Lib.hid hg
  clear hg
  go_enter Try.func29, Try.ntmps29
  go_wp2_with fail
  go_loopw [1, 5] (fun v1 v5 wr => RMarkRel n g cap w v1 v5 wr) (fun _ v5 _ => n - (intOf v5).toNat)
  case atStart => exact ⟨0, cur0, by omega, rfl, by simp, HG0.out, hsz, fun i hi => absurd hi (by omega), grown_refl _ _⟩
  case round =>
    obtain ⟨j, cur, hj, rfl, rfl, hB, hs, hm, hgr⟩ := hrel
    have HB := Lib.hid hB
    have HM := Lib.hid hm
    have HGR := Lib.hid hgr
    clear hB hm hgr
    by_cases hlt : j < n
    · have j1 : (j : Int) < (n : Int) := by omega
      have e1 : IntKind.i16.wrap (1 + 2 * (j : Int) + 1) = 1 + 2 * (j : Int) + 1 := IntWalk.i16_in _ (by omega)
      have e2 : IntKind.i64.wrap (1 + 2 * (j : Int) + 1) = 1 + 2 * (j : Int) + 1 := IntWalk.i64_in _ (by omega)
      go_wp2_with ((with_reducible refine wpList_gateS ?_); refine wpList_put1 (i := j * 2) (v := .int .i64 (1 + 2 * (j : Int))) size64 HB.out (by omega) rfl rfl rfl rfl ?_)
      intro w3 s3 b3 k3
      have K3 := Lib.hid (grown_trans HGR.out k3)
      clear k3
      go_wp2_with ((with_reducible refine wpList_gateS ?_); refine wpList_put1 (i := j * 2 + 1) (v := .int .i16 (1 + 2 * (j : Int) + 1)) size16 b3 (by rw [Array.size_setIfInBounds]; omega) rfl rfl rfl rfl ?_)
      intro w4 s4 b4 k4
      have K4 := Lib.hid (grown_trans K3.out k4)
      have B4 := Lib.hid b4
      clear b3 b4 k4
      go_wp2_with fail
      go_roundw
      case rel =>
        refine ⟨j + 1, _, by omega, by go_num, by go_num, B4.out, by simpa using hs, fun i hi => ?_, K4.out⟩
        rw [Array.getElem?_setIfInBounds, Array.getElem?_setIfInBounds, Array.getElem?_setIfInBounds, Array.getElem?_setIfInBounds]
        by_cases e : j = i
        · subst e
          refine ⟨?_, ?_⟩
          · rw [if_neg (by omega), if_pos rfl, if_pos (by omega)]
          · rw [if_pos rfl, if_pos (by rw [Array.size_setIfInBounds]; omega)]
        · rw [if_neg (by omega), if_neg (by omega), if_neg (by omega), if_neg (by omega)]
          exact HM.out i (by omega)
      case measure => simp [intOf]; omega
    · obtain rfl : j = n := by omega
      have j1 : ¬ (j : Int) < (j : Int) := by omega
      go_wp2_with fail
      go_ret
      exact ⟨rfl, ⟨_, cap, rfl, fun i hi => ⟨g, rfl, HB.out.at (HM.out i hi).1, HB.out.at (HM.out i hi).2⟩⟩, HGR.out⟩
theorem markReads_nil (w : World) : Calls Try.prog 29 #[.slice none 0 0, .int .i64 1] w fun e w' => e = .returned (.int .i64 1) ∧ w = w' := by
  go_enter Try.func29, Try.ntmps29
  go_wp2_with fail
  go_loopw [1, 5] (fun v1 v5 wr => v1 = .int .i64 1 ∧ v5 = .int .i64 0 ∧ w = wr) (fun _ v5 _ => (intOf v5).toNat)
  case atStart => exact ⟨rfl, rfl, rfl⟩
  case round =>
    obtain ⟨rfl, rfl, rfl⟩ := hrel
    go_wp2_with fail
    go_ret
    exact ⟨rfl, rfl⟩
theorem markReads_owns {w : World} {base : Nat} {v : Value} {n : Nat} {xs : List Value} (h : w.ownsRow base 81 2 v n xs) (hn : n ≤ 40) :
    Calls Try.prog 29 #[v, .int .i64 1] w fun e w' => e = .returned (.int .i64 (1 + 2 * (n : Int))) ∧ RCnt w' v n ∧ Below base w w' := by
  obtain ⟨h1, h2 | ⟨g, cap, cur, rfl, hb, hg, hc, hm, hs, _⟩⟩ := h
  · obtain ⟨rfl, h0⟩ := h2
    refine (markReads_nil w).mono ?_
    rintro e w' ⟨rfl, rfl⟩
    rw [h0]
    exact ⟨by simp, ⟨none, 0, rfl, fun j hj => absurd hj (by omega)⟩, Below.refl _ _⟩
  · refine (markReads_any g cap n cur w hn hc (by omega) hg).mono ?_
    rintro e w' ⟨rfl, hc', hgr⟩
    have hlt : g < w.heap.size := (Array.getElem?_eq_some_iff.1 hg).1
    refine ⟨rfl, hc', ?_⟩
    exact ⟨hgr.os, hgr.tape, hgr.output, by have := hgr.size; omega, fun k hk => hgr.block k (by omega) (by simp; omega)⟩
end Go.Proofs.Ytonmdkhfongmhaa
