/- The laws' copies of an aquifer and a well. -/
import Derived.Test.YtekemhibnokhcaaDoorWask
namespace Go.Proofs.YtekemhibnokhcaaDoor
open Go.RowKit

theorem newW (w : World) : (Instr.alloc 43 true (.tuple #[])).run Tryd.prog w = .ok (.pointer (some ⟨w.heap.size, 0, none⟩)) (w.alloc (.cells #[.int .i8 0, .int .i8 0, .float .f32 0] 43)) := by kernel_rfl
theorem size8 : (Tryd.prog.info? 29).map (·.size) = some 1 := by kernel_rfl

set_option maxRecDepth 100000 in
set_option maxHeartbeats 1600000 in
theorem toWell_any (X Y : Int) (R : Nat) (w : World) :
    Calls Tryd.prog 15 #[.agg #[.int .i8 X, .int .i8 Y, .float .f32 R]] w fun e w' => e = .returned (.agg #[.int .i8 X, .int .i8 Y, .float .f32 R]) ∧ Below w.heap.size w w' := by
  go_enter Tryd.func15, Tryd.ntmps15
  go_wp2_with (with_reducible refine wpList_box rfl ?_)
  intro A wA hA1 hA2 hA3 hA4
  go_wp2_with (with_reducible refine wpList_new newW ?_)
  intro Q wR hR1 hR2 hR3 hR4
  go_wp2_with (with_reducible refine wpList_new newW ?_)
  intro B wB hB1 hB2 hB3 hB4
  have hA3' := (hA3.later hR4).later hB4
  have hR3' := hR3.later hB4
  have HB := Lib.hid (below_next (below_next hA4 hR4) hB4)
  have sA := hA4.size
  have sR := hR4.size
  have nA : A < B := by omega
  have nR : Q < B := by omega
  have nW : w.heap.size ≤ B := by omega
  have nWR : w.heap.size ≤ Q := by omega
  clear hA3 hR3 hA4 hR4 hB4
  have c0 : wB.cell? ⟨A, 0, none⟩ = some (.int .i8 X) := hA3'.at rfl
  go_wp2_with ((with_reducible refine wpList_gateS ?_); refine wpList_put1 (v := .int .i8 X) size8 hB3 (by simp) rfl rfl rfl rfl ?_)
  intro w0 s0 b0 k0
  have hA10' := hA3'.grown k0 (by omega)
  have hR10' := hR3'.grown k0 (by omega)
  have HB0 := Lib.hid (below_grown HB.out k0 HB.out.size nW)
  clear hB3 c0
  have c1 : w0.cell? ⟨A, 1, none⟩ = some (.int .i8 Y) := hA10'.at rfl
  go_wp2_with ((with_reducible refine wpList_gateS ?_); refine wpList_put1 (v := .int .i8 Y) size8 b0 (by simp) rfl rfl rfl rfl ?_)
  intro w1 s1 b1 k1
  have hA11' := hA10'.grown k1 (by omega)
  have hR11' := hR10'.grown k1 (by omega)
  have HB1 := Lib.hid (below_grown HB0.out k1 HB0.out.size nW)
  clear b0 c1
  have c2 : w1.cell? ⟨A, 2, none⟩ = some (.float .f32 R) := hA11'.at rfl
  go_wp2_with ((with_reducible refine wpList_gateS ?_); refine wpList_put1 (v := .float .f32 R) size32 b1 (by simp) rfl rfl rfl rfl ?_)
  intro w2 s2 b2 k2
  have hA12' := hA11'.grown k2 (by omega)
  have hR12' := hR11'.grown k2 (by omega)
  have HB2 := Lib.hid (below_grown HB1.out k2 HB1.out.size nW)
  clear b1 c2
  have bl : Blk w2 B #[.int .i8 X, .int .i8 Y, .float .f32 R] 43 := b2
  go_wp2_with (first | ((with_reducible refine wpList_get bl Tryd.underlying43 rfl (by kernel_rfl) ?_ ?_); rfl) | ((with_reducible refine wpList_gateS ?_); refine wpList_put (cells := #[.int .i8 X, .int .i8 Y, .float .f32 R]) hR12' sizeWell rfl (by simp [Value.oneCell']) rfl rfl ?_))
  intro w9 s9 b9 k9
  go_wp2_with fail
  refine ret_cell1 rfl rfl (run_loadVar_row w9 Q _ _ _ _ _ b9 Tryd.underlying43 rfl (by kernel_rfl)) rfl ⟨rfl, ?_⟩
  exact below_grown HB2.out k9 HB2.out.size nWR

end Go.Proofs.YtekemhibnokhcaaDoor
