/- The laws' sizes, copies, comparisons and marks of lists of whole numbers, of readings and of aquifers. -/
import Derived.Test.YtonmdkhfongmhaaTM2
namespace Go.Proofs.Ytonmdkhfongmhaa
open Go.RowKit

set_option maxHeartbeats 400000 in
theorem szReadingS_gen (v : Value) (l : List Rd) (n : Int) (w : World) (hn : 0 ≤ n ∧ n ≤ 1048576) (hlen : l.length < 9223372036854775808) (hv : RLAt w v l) :
    Calls Try.prog 12 #[v, .int .i64 n] w fun e w' => e = .returned (.int .i64 (if (l.length : Int) ≤ n then n - (l.length : Int) else -1)) ∧ w = w' := by
  obtain ⟨aL, cap, rfl, hL⟩ := hv
  clear hL
  by_cases h : (l.length : Int) ≤ n
  · rw [if_pos h]
    have h1 : ¬ n - (l.length : Int) < 0 := by omega
    go_enter Try.func12, Try.ntmps12
    go_wp2_with fail
    go_ret
    exact ⟨rfl, rfl⟩
  · rw [if_neg h]
    have h1 : n - (l.length : Int) < 0 := by omega
    go_enter Try.func12, Try.ntmps12
    go_wp2_with fail
    go_ret
    exact ⟨rfl, rfl⟩

theorem TsAt.far {w w' : World} {v : Value} {f : Nat → Int} {n : Nat} (h : TsAt w v f n) (hb : Below w.heap.size w w') : TsAt w' v f n := by
  obtain ⟨a, cap, e, hL⟩ := h
  refine ⟨a, cap, e, fun j hj => ?_⟩
  obtain ⟨g, o, h2, h3⟩ := hL j hj
  exact ⟨g, o, h2, cell_below hb h3⟩
def CtRel (n : Nat) (w : World) (v5 : Value) (wr : World) : Prop := ∃ j : Nat, j ≤ n ∧ v5 = .int .i64 j ∧ Below w.heap.size w wr

set_option maxRecDepth 100000 in
set_option maxHeartbeats 800000 in
theorem eqInts_any (v v' : Value) (f : Nat → Int) (n : Nat) (w : World) (hn : n ≤ 1048576) (hv : TsAt w v f n) (hv' : TsAt w v' f n) :
    Calls Try.prog 27 #[v, v'] w (RetB true w) := by
  obtain ⟨aL, cap, rfl, hL⟩ := hv
  obtain ⟨aL', cap', rfl, hL'⟩ := hv'
  have HL := Lib.hid hL
  have HL' := Lib.hid hL'
  clear hL hL'
  go_enter Try.func27, Try.ntmps27
  go_wp2_with fail
  go_loopw [5] (fun v5 wr => CtRel n w v5 wr) (fun v5 _ => n - (intOf v5).toNat)
  case atStart => exact ⟨0, by omega, rfl, Below.refl _ _⟩
  case round =>
    obtain ⟨j, hj, rfl, hB⟩ := hrel
    have HB := Lib.hid hB
    clear hB
    by_cases hlt : j < n
    · obtain ⟨gq, oq, rfl, hq⟩ := HL.out j hlt
      obtain ⟨gq', oq', rfl, hq'⟩ := HL'.out j hlt
      have h1 := cell_below HB.out hq
      have h2 := cell_below HB.out hq'
      have j1 : (j : Int) < (n : Int) := by omega
      clear hq hq'
      go_wp2_with fail
      go_quiet (fail)
      go_wp2_with fail
      go_roundw
      case rel => exact ⟨j + 1, by omega, by go_num, below_drawn HB.out _⟩
      case measure => simp [intOf]; omega
    · have j1 : ¬ (j : Int) < (n : Int) := by omega
      go_wp2_with fail
      go_ret
      exact ⟨rfl, HB.out⟩

def AMarkRel (n g : Nat) (k : Int) (w : World) (t : TypeId) (v1 v5 : Value) (wr : World) : Prop :=
  ∃ (j : Nat) (cur : Array Value), j ≤ n ∧ v5 = .int .i64 j ∧ v1 = .int .i64 (k + 2 * (j : Int)) ∧ Blk wr g cur t ∧ cur.size = n * 2 ∧ w.grownBy wr (some g)

set_option maxRecDepth 100000 in
set_option maxHeartbeats 1600000 in
theorem markAquiferS_any (g n : Nat) (k : Int) (cur0 : Array Value) (w : World) (hn : n ≤ 1048576) (hk : 0 ≤ k ∧ k ≤ 1000000000) (hsz : cur0.size = n * 2) (hg : Blk w g cur0 42) :
    Calls Try.prog 43 #[.slice (some ⟨g, 0, none⟩) n n, .int .i64 k] w fun e w' => e = .returned (.int .i64 (k + 2 * (n : Int))) ∧ w.grownBy w' (some g) := by
  have HG0 := Lib.hid hg
  clear hg
  go_enter Try.func43, Try.ntmps43
  go_wp2_with fail
  go_loopw [1, 5] (fun v1 v5 wr => AMarkRel n g k w 42 v1 v5 wr) (fun _ v5 _ => n - (intOf v5).toNat)
  case atStart => exact ⟨0, cur0, by omega, rfl, by simp, HG0.out, hsz, grown_refl _ _⟩
  case round =>
    obtain ⟨j, cur, hj, rfl, rfl, hB, hs, hgr⟩ := hrel
    have HB := Lib.hid hB
    have HGR := Lib.hid hgr
    clear hB hgr
    by_cases hlt : j < n
    · have j1 : (j : Int) < (n : Int) := by omega
      go_wp2_with ((with_reducible refine wpList_gateS ?_); refine wpList_put1 (v := .float .f32 _) size32 HB.out (by show j * 2 < _; omega) rfl rfl rfl rfl ?_)
      intro w3 s3 b3 k3
      have K3 := Lib.hid (grown_trans HGR.out k3)
      clear k3
      go_wp2_with ((with_reducible refine wpList_gateS ?_); refine wpList_put1 (i := j * 2 + 1) (v := .float .f32 _) size32 b3 (by rw [Array.size_setIfInBounds]; omega) rfl rfl rfl rfl ?_)
      intro w4 s4 b4 k4
      have K4 := Lib.hid (grown_trans K3.out k4)
      have B4 := Lib.hid b4
      clear b3 b4 k4
      go_wp2_with fail
      go_roundw
      case rel => exact ⟨j + 1, _, by omega, by go_num, by go_num, B4.out, by simpa using hs, K4.out⟩
      case measure => simp [intOf]; omega
    · obtain rfl : j = n := by omega
      go_wp2_with fail
      go_ret
      exact ⟨rfl, HGR.out⟩

set_option maxRecDepth 100000 in
set_option maxHeartbeats 1600000 in
theorem markReadingS_any (g n : Nat) (k : Int) (cur0 : Array Value) (w : World) (hn : n ≤ 1048576) (hk : 0 ≤ k ∧ k ≤ 1000000000) (hsz : cur0.size = n * 2) (hg : Blk w g cur0 81) :
    Calls Try.prog 29 #[.slice (some ⟨g, 0, none⟩) n n, .int .i64 k] w fun e w' => e = .returned (.int .i64 (k + 2 * (n : Int))) ∧ w.grownBy w' (some g) := by
  have HG0 := Lib.hid hg
  clear hg
  go_enter Try.func29, Try.ntmps29
  go_wp2_with fail
  go_loopw [1, 5] (fun v1 v5 wr => AMarkRel n g k w 81 v1 v5 wr) (fun _ v5 _ => n - (intOf v5).toNat)
  case atStart => exact ⟨0, cur0, by omega, rfl, by simp, HG0.out, hsz, grown_refl _ _⟩
  case round =>
    obtain ⟨j, cur, hj, rfl, rfl, hB, hs, hgr⟩ := hrel
    have HB := Lib.hid hB
    have HGR := Lib.hid hgr
    clear hB hgr
    by_cases hlt : j < n
    · have j1 : (j : Int) < (n : Int) := by omega
      go_wp2_with ((with_reducible refine wpList_gateS ?_); refine wpList_put1 (v := .int .i64 _) size64 HB.out (by show j * 2 < _; omega) rfl rfl rfl rfl ?_)
      intro w3 s3 b3 k3
      have K3 := Lib.hid (grown_trans HGR.out k3)
      clear k3
      go_wp2_with ((with_reducible refine wpList_gateS ?_); refine wpList_put1 (i := j * 2 + 1) (v := .int .i16 _) size16 b3 (by rw [Array.size_setIfInBounds]; omega) rfl rfl rfl rfl ?_)
      intro w4 s4 b4 k4
      have K4 := Lib.hid (grown_trans K3.out k4)
      have B4 := Lib.hid b4
      clear b3 b4 k4
      go_wp2_with fail
      go_roundw
      case rel => exact ⟨j + 1, _, by omega, by go_num, by go_num, B4.out, by simpa using hs, K4.out⟩
      case measure => simp [intOf]; omega
    · obtain rfl : j = n := by omega
      go_wp2_with fail
      go_ret
      exact ⟨rfl, HGR.out⟩

/-- A list that holds 1, 2, .. -/
def ICnt (w : World) (v : Value) (n : Nat) : Prop :=
  ∃ a cap, v = .slice a n cap ∧ ∀ j : Nat, j < n → ∃ gq, a = some ⟨gq, 0, none⟩ ∧ w.cell? ⟨gq, j, none⟩ = some (.int .i64 (1 + (j : Int)))
theorem ICnt.far {w2 w' : World} {v : Value} {n : Nat} (h : ICnt w2 v n) (hb : Below w2.heap.size w2 w') : ICnt w' v n := by
  obtain ⟨a, cap, e, hL⟩ := h
  refine ⟨a, cap, e, fun j hj => ?_⟩
  obtain ⟨gq, e2, hq⟩ := hL j hj
  exact ⟨gq, e2, cell_below hb hq⟩
def IHeldRel (n : Nat) (w : World) (v1 v5 : Value) (wr : World) : Prop := ∃ j : Nat, j ≤ n ∧ v5 = .int .i64 j ∧ v1 = .int .i64 (1 + (j : Int)) ∧ Below w.heap.size w wr

set_option maxRecDepth 100000 in
set_option maxHeartbeats 800000 in
theorem heldInts_any (v : Value) (n : Nat) (w : World) (hn : n ≤ 1048576) (hv : ICnt w v n) :
    Calls Try.prog 44 #[v, .int .i64 1] w fun e w' => e = .returned (.int .i64 (1 + (n : Int))) ∧ Below w.heap.size w w' := by
  obtain ⟨aL, cap, rfl, hL⟩ := hv
  have HL := Lib.hid hL
  clear hL
  go_enter Try.func44, Try.ntmps44
  go_wp2_with fail
  go_loopw [1, 5] (fun v1 v5 wr => IHeldRel n w v1 v5 wr) (fun _ v5 _ => n - (intOf v5).toNat)
  case atStart => exact ⟨0, by omega, rfl, by simp, Below.refl _ _⟩
  case round =>
    obtain ⟨j, hj, rfl, rfl, hB⟩ := hrel
    have HB := Lib.hid hB
    clear hB
    by_cases hlt : j < n
    · obtain ⟨gq, rfl, hq⟩ := HL.out j hlt
      have h1 := cell_below HB.out hq
      have j1 : (j : Int) < (n : Int) := by omega
      clear hq
      go_wp2_with fail
      go_roundw
      case rel => exact ⟨j + 1, by omega, by go_num, by go_num, HB.out⟩
      case measure => simp [intOf]; omega
    · obtain rfl : j = n := by omega
      go_wp2_with fail
      go_ret
      exact ⟨rfl, HB.out⟩

def IMarkRel (n g cap : Nat) (w : World) (v1 v5 : Value) (wr : World) : Prop :=
  ∃ (j : Nat) (cur : Array Value), j ≤ n ∧ v5 = .int .i64 j ∧ v1 = .int .i64 (1 + (j : Int)) ∧ Blk wr g cur 2 ∧ cur.size = cap ∧ (∀ i : Nat, i < j → cur[i]? = some (.int .i64 (1 + (i : Int)))) ∧ w.grownBy wr (some g)

set_option maxRecDepth 100000 in
set_option maxHeartbeats 800000 in
theorem markInts_any (g cap n : Nat) (cur0 : Array Value) (w : World) (hn : n ≤ 1048576) (hcap : n ≤ cap) (hsz : cur0.size = cap) (hg : Blk w g cur0 2) :
    Calls Try.prog 28 #[.slice (some ⟨g, 0, none⟩) n cap, .int .i64 1] w fun e w' => e = .returned (.int .i64 (1 + (n : Int))) ∧ ICnt w' (.slice (some ⟨g, 0, none⟩) n cap) n ∧ w.grownBy w' (some g) := by
  have HG0 := Lib.hid hg
  clear hg
  go_enter Try.func28, Try.ntmps28
  go_wp2_with fail
  go_loopw [1, 5] (fun v1 v5 wr => IMarkRel n g cap w v1 v5 wr) (fun _ v5 _ => n - (intOf v5).toNat)
  case atStart => exact ⟨0, cur0, by omega, rfl, by simp, HG0.out, hsz, fun i hi => absurd hi (by omega), grown_refl _ _⟩
  case round =>
    obtain ⟨j, cur, hj, rfl, rfl, hB, hs, hm, hgr⟩ := hrel
    have HB := Lib.hid hB
    have HM := Lib.hid hm
    have HGR := Lib.hid hgr
    clear hB hm hgr
    by_cases hlt : j < n
    · have j1 : (j : Int) < (n : Int) := by omega
      go_wp2_with ((with_reducible refine wpList_gateS ?_); refine wpList_put1 (v := .int .i64 (1 + (j : Int))) size64 HB.out (by omega) rfl rfl rfl rfl ?_)
      intro w3 s3 b3 k3
      have B3 := Lib.hid b3
      have K3 := Lib.hid (grown_trans HGR.out k3)
      clear b3 k3
      go_wp2_with fail
      go_roundw
      case rel =>
        refine ⟨j + 1, _, by omega, by go_num, by go_num, B3.out, by simpa using hs, fun i hi => ?_, K3.out⟩
        rw [Array.getElem?_setIfInBounds]
        by_cases e : j = i
        · subst e; rw [if_pos rfl, if_pos (by omega)]
        · rw [if_neg e]; exact HM.out i (by omega)
      case measure => simp [intOf]; omega
    · obtain rfl : j = n := by omega
      go_wp2_with fail
      go_ret
      exact ⟨rfl, ⟨_, cap, rfl, fun i hi => ⟨g, rfl, HB.out.at (HM.out i hi)⟩⟩, HGR.out⟩
theorem markInts_nil (w : World) : Calls Try.prog 28 #[.slice none 0 0, .int .i64 1] w fun e w' => e = .returned (.int .i64 1) ∧ w = w' := by
  go_enter Try.func28, Try.ntmps28
  go_wp2_with fail
  go_loopw [1, 5] (fun v1 v5 wr => v1 = .int .i64 1 ∧ v5 = .int .i64 0 ∧ w = wr) (fun _ v5 _ => (intOf v5).toNat)
  case atStart => exact ⟨rfl, rfl, rfl⟩
  case round =>
    obtain ⟨rfl, rfl, rfl⟩ := hrel
    go_wp2_with fail
    go_ret
    exact ⟨rfl, rfl⟩
theorem markInts_owns {w : World} {base : Nat} {v : Value} {n : Nat} {xs : List Value} (h : w.ownsRow base 2 1 v n xs) (hn : n ≤ 1048576) :
    Calls Try.prog 28 #[v, .int .i64 1] w fun e w' => e = .returned (.int .i64 (1 + (n : Int))) ∧ ICnt w' v n ∧ Below base w w' := by
  obtain ⟨h1, h2 | ⟨g, cap, cur, rfl, hb, hg, hc, hm, hs, _⟩⟩ := h
  · obtain ⟨rfl, h0⟩ := h2
    refine (markInts_nil w).mono ?_
    rintro e w' ⟨rfl, rfl⟩
    rw [h0]
    exact ⟨by simp, ⟨none, 0, rfl, fun j hj => absurd hj (by omega)⟩, Below.refl _ _⟩
  · refine (markInts_any g cap n cur w hn hc (by omega) hg).mono ?_
    rintro e w' ⟨rfl, hc', hgr⟩
    have hlt : g < w.heap.size := (Array.getElem?_eq_some_iff.1 hg).1
    refine ⟨rfl, hc', ?_⟩
    exact ⟨hgr.os, hgr.tape, hgr.output, by have := hgr.size; omega, fun k hk => hgr.block k (by omega) (by simp; omega)⟩
end Go.Proofs.Ytonmdkhfongmhaa
