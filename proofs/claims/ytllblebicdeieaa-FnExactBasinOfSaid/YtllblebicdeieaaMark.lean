/- The laws' marks: numbers counted up into a list, and read again. -/
import Derived.Test.YtllblebicdeieaaEqI
namespace Go.Proofs.Ytllblebicdeieaa
open Go.RowKit

/-- A list that holds q, q + 1, .. -/
def Counts (w : World) (v : Value) (n : Nat) (q : Int) : Prop :=
  ∃ a cap, v = .slice a n cap ∧ ∀ j, j < n → ∃ gq, a = some ⟨gq, 0, none⟩ ∧ w.cell? ⟨gq, j, none⟩ = some (.int .i64 (q + j))

def HeldRel (n : Nat) (q : Int) (w : World) (v1 v5 : Value) (wr : World) : Prop := ∃ j : Nat, j ≤ n ∧ v5 = .int .i64 j ∧ v1 = .int .i64 (q + j) ∧ Below w.heap.size w wr

set_option maxRecDepth 100000 in
set_option maxHeartbeats 800000 in
theorem heldInt64S_any (v : Value) (n : Nat) (w : World) (hn : n ≤ 64) (hv : Counts w v n 1) :
    Calls Try.prog 25 #[v, .int .i64 1] w fun e w' => e = .returned (.int .i64 (1 + (n : Int))) ∧ Below w.heap.size w w' := by
  obtain ⟨aL, cap, rfl, hL⟩ := hv
  have HL := Lib.hid hL
  clear hL
  go_enter Try.func25, Try.ntmps25
  go_wp2_with fail
  go_loopw [1, 5] (fun v1 v5 wr => HeldRel n 1 w v1 v5 wr) (fun _ v5 _ => n - (intOf v5).toNat)
  case atStart => exact ⟨0, by omega, rfl, by simp, Below.refl _ _⟩
  case round =>
    obtain ⟨j, hj, rfl, rfl, hB⟩ := hrel
    have HB := Lib.hid hB
    clear hB
    by_cases hlt : j < n
    · obtain ⟨gq, rfl, hq⟩ := HL.out j hlt
      have h1 := cell_below HB.out hq
      have j1 : (j : Int) < (n : Int) := by omega
      have hj64 : j < 64 := by omega
      clear hq
      go_wp2_with fail
      go_roundw
      case rel => exact ⟨j + 1, by omega, by go_num, by go_num, HB.out⟩
      case measure => simp [intOf]; omega
    · obtain rfl : j = n := by omega
      go_wp2_with fail
      go_ret
      exact ⟨rfl, HB.out⟩

def MarkRel (n g cap : Nat) (w : World) (v1 v5 : Value) (wr : World) : Prop :=
  ∃ (j : Nat) (cur : Array Value), j ≤ n ∧ v5 = .int .i64 j ∧ v1 = .int .i64 (1 + j) ∧ Blk wr g cur 2 ∧ cur.size = cap ∧ (∀ i, i < j → cur[i]? = some (.int .i64 (1 + i))) ∧ w.grownBy wr (some g)
theorem size64 : (Try.prog.info? 2).map (·.size) = some 1 := by kernel_rfl

set_option maxRecDepth 100000 in
set_option maxHeartbeats 800000 in
theorem markInt64S_any (g cap n : Nat) (cur0 : Array Value) (w : World) (hn : n ≤ 64) (hcap : n ≤ cap) (hsz : cur0.size = cap) (hg : Blk w g cur0 2) :
    Calls Try.prog 24 #[.slice (some ⟨g, 0, none⟩) n cap, .int .i64 1] w fun e w' => e = .returned (.int .i64 (1 + (n : Int))) ∧ Counts w' (.slice (some ⟨g, 0, none⟩) n cap) n 1 ∧ w.grownBy w' (some g) := by
  have HG0 := Lib.hid hg
  clear hg
  go_enter Try.func24, Try.ntmps24
  go_wp2_with fail
  go_loopw [1, 5] (fun v1 v5 wr => MarkRel n g cap w v1 v5 wr) (fun _ v5 _ => n - (intOf v5).toNat)
  case atStart => exact ⟨0, cur0, by omega, rfl, by simp, HG0.out, hsz, fun i hi => absurd hi (by omega), grown_refl _ _⟩
  case round =>
    obtain ⟨j, cur, hj, rfl, rfl, hB, hs, hm, hgr⟩ := hrel
    have HB := Lib.hid hB
    have HM := Lib.hid hm
    have HGR := Lib.hid hgr
    clear hB hm hgr
    by_cases hlt : j < n
    · have j1 : (j : Int) < (n : Int) := by omega
      have hj64 : j < 64 := by omega
      go_wp2_with ((with_reducible refine wpList_gateS ?_); refine wpList_put1 (v := .int .i64 (1 + (j : Int))) size64 HB.out (by omega) rfl rfl rfl rfl ?_)
      intro w3 s3 b3 k3
      have B3 := Lib.hid b3
      have K3 := Lib.hid (grown_trans HGR.out k3)
      clear b3 k3
      go_wp2_with fail
      go_roundw
      case rel =>
        refine ⟨j + 1, _, by omega, by go_num, by go_num, B3.out, by simpa using hs, fun i hi => ?_, K3.out⟩
        rw [Array.getElem?_setIfInBounds]
        by_cases e : j = i
        · subst e; rw [if_pos rfl, if_pos (by omega)]
        · rw [if_neg e]; exact HM.out i (by omega)
      case measure => simp [intOf]; omega
    · obtain rfl : j = n := by omega
      go_wp2_with fail
      go_ret
      exact ⟨rfl, ⟨_, cap, rfl, fun i hi => ⟨g, rfl, HB.out.at (HM.out i hi)⟩⟩, HGR.out⟩
end Go.Proofs.Ytllblebicdeieaa
