/- The reference's source of choices: the walk. -/
import Derived.Test.YtbhnnglpakdigaaFlist
import Derived.BigQuiet
namespace Go.Proofs.Ytbhnnglpakdigaa
open Go.RowKit

/-- A row of bytes that a slice shows. -/
def BytesAt (w : World) (v : Value) (n : Nat) : Prop :=
  ∃ a cap, v = .slice a n cap ∧ ∀ j : Nat, j < n → ∃ g o x, a = some ⟨g, o, none⟩ ∧ w.cell? ⟨g, o + j, none⟩ = some (.int .u8 x) ∧ 0 ≤ x ∧ x ≤ 255
theorem BytesAt.far {w w' : World} {v : Value} {n : Nat} (h : BytesAt w v n) (hb : Below w.heap.size w w') : BytesAt w' v n := by
  obtain ⟨a, cap, e, hL⟩ := h
  refine ⟨a, cap, e, fun j hj => ?_⟩
  obtain ⟨g, o, x, h1, h2, h3⟩ := hL j hj
  exact ⟨g, o, x, h1, cell_below hb h2, h3⟩
/-- A source of choices. -/
def SrcAt (w : World) (b : Nat) (v : Value) (k : Nat) : Prop := ∃ (at' : Nat) (seed : Int), at' ≤ k ∧ Blk w b #[v, .int .i64 at', .int .u64 seed] 104

/-- The last eight digits. -/
def andN (x : Int) : Nat := ((BitVec.ofInt 64 x) &&& (BitVec.ofInt 64 255)).toNat
theorem andN_le (x : Int) : andN x ≤ 255 := by
  unfold andN
  rw [BitVec.toNat_and]
  exact Nat.le_trans Nat.and_le_right (by decide)
theorem and255 (x : Int) : bits BinOp.and IntKind.u64 x 255 = ((andN x : Nat) : Int) := by
  have h := andN_le x
  show IntKind.u64.wrap ((andN x : Nat) : Int) = _
  rw [IntKind.wrap_u64]
  omega
theorem andN_wrap (x : Int) : IntKind.i64.wrap ((andN x : Nat) : Int) = ((andN x : Nat) : Int) := by
  have h := andN_le x
  generalize andN x = m at h
  simp only [IntKind.wrap, IntKind.bits, IntKind.signed]
  simp
  omega
theorem sizeInt : (Try.prog.info? 3).map (·.size) = some 1 := by kernel_rfl
theorem sizeU64 : (Try.prog.info? 102).map (·.size) = some 1 := by kernel_rfl

set_option maxRecDepth 100000 in
set_option maxHeartbeats 1600000 in
theorem next_any (b n k : Nat) (v : Value) (w : World) (hn : n ≤ 4096) (hk : k ≤ 1000000) (hv : BytesAt w v n) (hs : SrcAt w b v k) :
    Calls Try.prog 87 #[.pointer (some ⟨b, 0, none⟩)] w fun e w' => ∃ z : Nat, e = .returned (.int .i64 z) ∧ z ≤ 255 ∧ SrcAt w' b v (k + 1) ∧ w.grownBy w' (some b) := by
  obtain ⟨p, seed, hp, hb⟩ := hs
  obtain ⟨a, cap, rfl, hL⟩ := hv
  have HB := Lib.hid hb
  have HL := Lib.hid hL
  have c0 : w.cell? ⟨b, 0, none⟩ = some (.slice a n cap) := hb.at rfl
  have c1 : w.cell? ⟨b, 1, none⟩ = some (.int .i64 p) := hb.at rfl
  clear hb hL
  by_cases hlt : p < n
  · obtain ⟨g, o, x, rfl, hx, x0, x1⟩ := HL.out p hlt
    have j1 : (p : Int) < (n : Int) := by omega
    go_enter Try.func87, Try.ntmps87
    go_wp2_with fail
    go_quiet (fail)
    go_wp2_with fail
    go_quiet (fail)
    go_wp2_with ((with_reducible refine wpList_gateS ?_); refine wpList_put1 (i := 1) (v := .int .i64 _) sizeInt (HB.out.drewN _) (by simp) rfl rfl rfl rfl ?_)
    intro w3 s3 b3 k3
    have K3 := Lib.hid (grown_trans (grown_drewN w _ _) k3)
    have B3 : Blk w3 b #[.slice (some ⟨g, o, none⟩) n cap, .int .i64 ((p : Int) + 1), .int .u64 seed] 104 := b3
    have d2 : w3.cell? ⟨b, 2, none⟩ = some (.int .u64 seed) := B3.at rfl
    clear c0 c1 hx k3 b3
    go_wp2_with ((with_reducible refine wpList_gateS ?_); refine wpList_put1 (i := 2) (v := .int .u64 _) sizeU64 B3 (by simp) rfl rfl rfl rfl ?_)
    intro w4 s4 b4 k4
    have K4 := Lib.hid (grown_trans K3.out k4)
    have B4 := Lib.hid b4
    have e0 : w4.cell? ⟨b, 0, none⟩ = some (.slice (some ⟨g, o, none⟩) n cap) := b4.at rfl
    have e1 : w4.cell? ⟨b, 1, none⟩ = some (.int .i64 ((p : Int) + 1)) := b4.at rfl
    have j2 : (p : Int) + 1 ≤ (n : Int) := by omega
    clear k4 b4 d2 B3
    go_wp2_with fail
    go_quiet (fail)
    go_wp2_with fail
    go_ret
    obtain ⟨z, rfl⟩ : ∃ z : Nat, x = z := ⟨x.toNat, by omega⟩
    exact ⟨z, rfl, by omega, ⟨p + 1, _, by omega, B4.out.drewN _⟩, grown_trans K4.out (grown_drewN _ _ _)⟩
  · have j1 : ¬ (p : Int) < (n : Int) := by omega
    go_enter Try.func87, Try.ntmps87
    go_wp2_with fail
    go_quiet (fail)
    go_wp2_with ((with_reducible refine wpList_gateS ?_); refine wpList_put1 (i := 1) (v := .int .i64 _) sizeInt (HB.out.drewN _) (by simp) rfl rfl rfl rfl ?_)
    intro w3 s3 b3 k3
    have K3 := Lib.hid (grown_trans (grown_drewN w _ _) k3)
    have B3 : Blk w3 b #[.slice a n cap, .int .i64 ((p : Int) + 1), .int .u64 seed] 104 := b3
    have d2 : w3.cell? ⟨b, 2, none⟩ = some (.int .u64 seed) := B3.at rfl
    clear c0 c1 k3 b3
    go_wp2_with ((with_reducible refine wpList_gateS ?_); refine wpList_put1 (i := 2) (v := .int .u64 _) sizeU64 B3 (by simp) rfl rfl rfl rfl ?_)
    intro w4 s4 b4 k4
    have K4 := Lib.hid (grown_trans K3.out k4)
    have B4 := Lib.hid b4
    have e0 : w4.cell? ⟨b, 0, none⟩ = some (.slice a n cap) := b4.at rfl
    have e1 : w4.cell? ⟨b, 1, none⟩ = some (.int .i64 ((p : Int) + 1)) := b4.at rfl
    have j2 : ¬ (p : Int) + 1 ≤ (n : Int) := by omega
    obtain ⟨sd, b5⟩ : ∃ sd, Blk w4 b #[.slice a n cap, .int .i64 ((p : Int) + 1), .int .u64 sd] 104 := ⟨_, b4⟩
    have e2 : w4.cell? ⟨b, 2, none⟩ = some (.int .u64 sd) := b5.at rfl
    have B5 := Lib.hid b5
    have ha := and255
    have hw := andN_wrap
    clear k4 B3 d2 b4 b5 B4
    go_wp2_with fail
    go_quiet (fail)
    go_wp2_with fail
    go_ret
    exact ⟨andN _, rfl, andN_le _, ⟨p + 1, sd, by omega, B5.out.drewN _⟩, grown_trans K4.out (grown_drewN _ _ _)⟩
end Go.Proofs.Ytbhnnglpakdigaa
