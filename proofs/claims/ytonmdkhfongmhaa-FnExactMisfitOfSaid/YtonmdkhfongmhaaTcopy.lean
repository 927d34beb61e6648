/- The laws' copies of an aquifer, a well, a reading and a site. -/
import Derived.Test.YtonmdkhfongmhaaWdown
import Derived.Test.YtonmdkhfongmhaaFlist
import Derived.Test.YtonmdkhfongmhaaMid
import Derived.OwnWalk
import Derived.Deep.MidRow
namespace Go.Proofs.Ytonmdkhfongmhaa
open Go.RowKit

theorem size8 : (Try.prog.info? 35).map (·.size) = some 1 := by kernel_rfl
theorem size16 : (Try.prog.info? 79).map (·.size) = some 1 := by kernel_rfl
theorem size64 : (Try.prog.info? 2).map (·.size) = some 1 := by kernel_rfl
theorem sizeAq : (Try.prog.info? 42).map (·.size) = some 2 := by kernel_rfl
theorem sizeAqL : (Try.prog.info? 34).map (·.size) = some 2 := by kernel_rfl
theorem sizeWell : (Try.prog.info? 44).map (·.size) = some 3 := by kernel_rfl
theorem sizeWellL : (Try.prog.info? 37).map (·.size) = some 3 := by kernel_rfl
theorem sizeRd : (Try.prog.info? 81).map (·.size) = some 2 := by kernel_rfl
theorem sizeRdL : (Try.prog.info? 85).map (·.size) = some 2 := by kernel_rfl
theorem sizeSt : (Try.prog.info? 46).map (·.size) = some 5 := by kernel_rfl
theorem sizeStL : (Try.prog.info? 39).map (·.size) = some 5 := by kernel_rfl
theorem newA (w : World) : (Instr.alloc 42 true (.tuple #[])).run Try.prog w = .ok (.pointer (some ⟨w.heap.size, 0, none⟩)) (w.alloc (.cells #[.float .f32 0, .float .f32 0] 42)) := by kernel_rfl
theorem newW (w : World) : (Instr.alloc 44 true (.tuple #[])).run Try.prog w = .ok (.pointer (some ⟨w.heap.size, 0, none⟩)) (w.alloc (.cells #[.int .i8 0, .int .i8 0, .float .f32 0] 44)) := by kernel_rfl
theorem newR (w : World) : (Instr.alloc 81 true (.tuple #[])).run Try.prog w = .ok (.pointer (some ⟨w.heap.size, 0, none⟩)) (w.alloc (.cells #[.int .i64 0, .int .i16 0] 81)) := by kernel_rfl
theorem newS (w : World) : (Instr.alloc 46 true (.tuple #[])).run Try.prog w = .ok (.pointer (some ⟨w.heap.size, 0, none⟩)) (w.alloc (.cells #[.int .i8 0, .int .i8 0, .float .f32 0, .int .i8 0, .int .i8 0] 46)) := by kernel_rfl
theorem range_below {w w' : World} {b o : Nat} {cs : List Value} (h : w.rangeAt b o cs) (hb : Below w.heap.size w w') : w'.rangeAt b o cs := fun j v hv => cell_below hb (h j v hv)
/-- Only at a load. -/
theorem wpList_gateL {P : Program} {ops : Array Oper} {Q : Exit → Act → World → Prop} {rest : List Oper} {a : Act} {w : World} {dst : Option Tmp} {ty T : TypeId} {X : Operand} {pos : String} {after : Array Edge}
    (h : Gate (wpList P ops Q (⟨dst, .load T X, ty, pos, after, none⟩ :: rest) a w)) : wpList P ops Q (⟨dst, .load T X, ty, pos, after, none⟩ :: rest) a w := h
theorem take_more' {α : Type} {l : List α} {j : Nat} {c : α} (h : l[j]? = some c) : l.take (j + 1) = l.take j ++ [c] := by rw [List.take_add_one, h]; rfl

set_option maxRecDepth 100000 in
set_option maxHeartbeats 1600000 in
theorem toAquifer_any (T S : Nat) (w : World) :
    Calls Try.prog 19 #[.agg #[.float .f32 T, .float .f32 S]] w fun e w' => e = .returned (.agg #[.float .f32 T, .float .f32 S]) ∧ Below w.heap.size w w' := by
  go_enter Try.func19, Try.ntmps19
  go_wp2_with (with_reducible refine wpList_box rfl ?_)
  intro A wA hA1 hA2 hA3 hA4
  go_wp2_with (with_reducible refine wpList_new newA ?_)
  intro Q wR hR1 hR2 hR3 hR4
  go_wp2_with (with_reducible refine wpList_new newA ?_)
  intro B wB hB1 hB2 hB3 hB4
  have hA3' := (hA3.later hR4).later hB4
  have hR3' := hR3.later hB4
  have HB := Lib.hid (below_next (below_next hA4 hR4) hB4)
  have sA := hA4.size
  have sR := hR4.size
  have nA : A < B := by omega
  have nR : Q < B := by omega
  have nW : w.heap.size ≤ B := by omega
  have nWR : w.heap.size ≤ Q := by omega
  clear hA3 hR3 hA4 hR4 hB4
  have c0 : wB.cell? ⟨A, 0, none⟩ = some (.float .f32 T) := hA3'.at rfl
  go_wp2_with ((with_reducible refine wpList_gateS ?_); refine wpList_put1 (v := .float .f32 T) size32 hB3 (by simp) rfl rfl rfl rfl ?_)
  intro w0 s0 b0 k0
  have hA10' := hA3'.grown k0 (by omega)
  have hR10' := hR3'.grown k0 (by omega)
  have HB0 := Lib.hid (below_grown HB.out k0 HB.out.size nW)
  clear hB3 c0
  have c1 : w0.cell? ⟨A, 1, none⟩ = some (.float .f32 S) := hA10'.at rfl
  go_wp2_with ((with_reducible refine wpList_gateS ?_); refine wpList_put1 (v := .float .f32 S) size32 b0 (by simp) rfl rfl rfl rfl ?_)
  intro w1 s1 b1 k1
  have hA11' := hA10'.grown k1 (by omega)
  have hR11' := hR10'.grown k1 (by omega)
  have HB1 := Lib.hid (below_grown HB0.out k1 HB0.out.size nW)
  clear b0 c1
  have bl : Blk w1 B #[.float .f32 T, .float .f32 S] 42 := b1
  go_wp2_with (first | ((with_reducible refine wpList_get bl Try.underlying42 rfl (by kernel_rfl) ?_ ?_); rfl) | ((with_reducible refine wpList_gateS ?_); refine wpList_put (cells := #[.float .f32 T, .float .f32 S]) hR11' sizeAq rfl (by simp [Value.oneCell']) rfl rfl ?_))
  intro w9 s9 b9 k9
  go_wp2_with fail
  refine ret_cell1 rfl rfl (run_loadVar_row w9 Q _ _ _ _ _ b9 Try.underlying42 rfl (by kernel_rfl)) rfl ⟨rfl, ?_⟩
  exact below_grown HB1.out k9 HB1.out.size nWR

set_option maxRecDepth 100000 in
set_option maxHeartbeats 1600000 in
theorem toWell_any (X Y : Int) (R : Nat) (w : World) :
    Calls Try.prog 62 #[.agg #[.int .i8 X, .int .i8 Y, .float .f32 R]] w fun e w' => e = .returned (.agg #[.int .i8 X, .int .i8 Y, .float .f32 R]) ∧ Below w.heap.size w w' := by
  go_enter Try.func62, Try.ntmps62
  go_wp2_with (with_reducible refine wpList_box rfl ?_)
  intro A wA hA1 hA2 hA3 hA4
  go_wp2_with (with_reducible refine wpList_new newW ?_)
  intro Q wR hR1 hR2 hR3 hR4
  go_wp2_with (with_reducible refine wpList_new newW ?_)
  intro B wB hB1 hB2 hB3 hB4
  have hA3' := (hA3.later hR4).later hB4
  have hR3' := hR3.later hB4
  have HB := Lib.hid (below_next (below_next hA4 hR4) hB4)
  have sA := hA4.size
  have sR := hR4.size
  have nA : A < B := by omega
  have nR : Q < B := by omega
  have nW : w.heap.size ≤ B := by omega
  have nWR : w.heap.size ≤ Q := by omega
  clear hA3 hR3 hA4 hR4 hB4
  have c0 : wB.cell? ⟨A, 0, none⟩ = some (.int .i8 X) := hA3'.at rfl
  go_wp2_with ((with_reducible refine wpList_gateS ?_); refine wpList_put1 (v := .int .i8 X) size8 hB3 (by simp) rfl rfl rfl rfl ?_)
  intro w0 s0 b0 k0
  have hA10' := hA3'.grown k0 (by omega)
  have hR10' := hR3'.grown k0 (by omega)
  have HB0 := Lib.hid (below_grown HB.out k0 HB.out.size nW)
  clear hB3 c0
  have c1 : w0.cell? ⟨A, 1, none⟩ = some (.int .i8 Y) := hA10'.at rfl
  go_wp2_with ((with_reducible refine wpList_gateS ?_); refine wpList_put1 (v := .int .i8 Y) size8 b0 (by simp) rfl rfl rfl rfl ?_)
  intro w1 s1 b1 k1
  have hA11' := hA10'.grown k1 (by omega)
  have hR11' := hR10'.grown k1 (by omega)
  have HB1 := Lib.hid (below_grown HB0.out k1 HB0.out.size nW)
  clear b0 c1
  have c2 : w1.cell? ⟨A, 2, none⟩ = some (.float .f32 R) := hA11'.at rfl
  go_wp2_with ((with_reducible refine wpList_gateS ?_); refine wpList_put1 (v := .float .f32 R) size32 b1 (by simp) rfl rfl rfl rfl ?_)
  intro w2 s2 b2 k2
  have hA12' := hA11'.grown k2 (by omega)
  have hR12' := hR11'.grown k2 (by omega)
  have HB2 := Lib.hid (below_grown HB1.out k2 HB1.out.size nW)
  clear b1 c2
  have bl : Blk w2 B #[.int .i8 X, .int .i8 Y, .float .f32 R] 44 := b2
  go_wp2_with (first | ((with_reducible refine wpList_get bl Try.underlying44 rfl (by kernel_rfl) ?_ ?_); rfl) | ((with_reducible refine wpList_gateS ?_); refine wpList_put (cells := #[.int .i8 X, .int .i8 Y, .float .f32 R]) hR12' sizeWell rfl (by simp [Value.oneCell']) rfl rfl ?_))
  intro w9 s9 b9 k9
  go_wp2_with fail
  refine ret_cell1 rfl rfl (run_loadVar_row w9 Q _ _ _ _ _ b9 Try.underlying44 rfl (by kernel_rfl)) rfl ⟨rfl, ?_⟩
  exact below_grown HB2.out k9 HB2.out.size nWR

set_option maxRecDepth 100000 in
set_option maxHeartbeats 1600000 in
theorem toReading_any (t l : Int) (w : World) :
    Calls Try.prog 51 #[.agg #[.int .i64 t, .int .i16 l]] w fun e w' => e = .returned (.agg #[.int .i64 t, .int .i16 l]) ∧ Below w.heap.size w w' := by
  go_enter Try.func51, Try.ntmps51
  go_wp2_with (with_reducible refine wpList_box rfl ?_)
  intro A wA hA1 hA2 hA3 hA4
  go_wp2_with (with_reducible refine wpList_new newR ?_)
  intro Q wR hR1 hR2 hR3 hR4
  go_wp2_with (with_reducible refine wpList_new newR ?_)
  intro B wB hB1 hB2 hB3 hB4
  have hA3' := (hA3.later hR4).later hB4
  have hR3' := hR3.later hB4
  have HB := Lib.hid (below_next (below_next hA4 hR4) hB4)
  have sA := hA4.size
  have sR := hR4.size
  have nA : A < B := by omega
  have nR : Q < B := by omega
  have nW : w.heap.size ≤ B := by omega
  have nWR : w.heap.size ≤ Q := by omega
  clear hA3 hR3 hA4 hR4 hB4
  have c0 : wB.cell? ⟨A, 0, none⟩ = some (.int .i64 t) := hA3'.at rfl
  go_wp2_with ((with_reducible refine wpList_gateS ?_); refine wpList_put1 (v := .int .i64 t) size64 hB3 (by simp) rfl rfl rfl rfl ?_)
  intro w0 s0 b0 k0
  have hA10' := hA3'.grown k0 (by omega)
  have hR10' := hR3'.grown k0 (by omega)
  have HB0 := Lib.hid (below_grown HB.out k0 HB.out.size nW)
  clear hB3 c0
  have c1 : w0.cell? ⟨A, 1, none⟩ = some (.int .i16 l) := hA10'.at rfl
  go_wp2_with ((with_reducible refine wpList_gateS ?_); refine wpList_put1 (v := .int .i16 l) size16 b0 (by simp) rfl rfl rfl rfl ?_)
  intro w1 s1 b1 k1
  have hA11' := hA10'.grown k1 (by omega)
  have hR11' := hR10'.grown k1 (by omega)
  have HB1 := Lib.hid (below_grown HB0.out k1 HB0.out.size nW)
  clear b0 c1
  have bl : Blk w1 B #[.int .i64 t, .int .i16 l] 81 := b1
  go_wp2_with (first | ((with_reducible refine wpList_get bl Try.underlying81 rfl (by kernel_rfl) ?_ ?_); rfl) | ((with_reducible refine wpList_gateS ?_); refine wpList_put (cells := #[.int .i64 t, .int .i16 l]) hR11' sizeRd rfl (by simp [Value.oneCell']) rfl rfl ?_))
  intro w9 s9 b9 k9
  go_wp2_with fail
  refine ret_cell1 rfl rfl (run_loadVar_row w9 Q _ _ _ _ _ b9 Try.underlying81 rfl (by kernel_rfl)) rfl ⟨rfl, ?_⟩
  exact below_grown HB1.out k9 HB1.out.size nWR

set_option maxRecDepth 100000 in
set_option maxHeartbeats 1600000 in
theorem toSite_any (X Y : Int) (R : Nat) (px py : Int) (w : World) :
    Calls Try.prog 20 #[.agg #[.int .i8 X, .int .i8 Y, .float .f32 R, .int .i8 px, .int .i8 py]] w fun e w' => e = .returned (.agg #[.int .i8 X, .int .i8 Y, .float .f32 R, .int .i8 px, .int .i8 py]) ∧ Below w.heap.size w w' := by
  go_enter Try.func20, Try.ntmps20
  go_wp2_with (with_reducible refine wpList_box rfl ?_)
  intro A wA hA1 hA2 hA3 hA4
  go_wp2_with (with_reducible refine wpList_new newS ?_)
  intro Q wR hR1 hR2 hR3 hR4
  go_wp2_with (with_reducible refine wpList_new newS ?_)
  intro B wB hB1 hB2 hB3 hB4
  have hA3' := (hA3.later hR4).later hB4
  have hR3' := hR3.later hB4
  have HB := Lib.hid (below_next (below_next hA4 hR4) hB4)
  have sA := hA4.size
  have sR := hR4.size
  have nA : A < B := by omega
  have nR : Q < B := by omega
  have nW : w.heap.size ≤ B := by omega
  have nWR : w.heap.size ≤ Q := by omega
  clear hA3 hR3 hA4 hR4 hB4
  go_wp2_with ((with_reducible refine wpList_getAt (T := 37) (b := A) (o := 0) (cs := #[.int .i8 X, .int .i8 Y, .float .f32 R]) Try.underlying37 ?_ ?_ ?_ ?_ ?_); rfl; exact sizeWellL; (exact fun i v hv => hA3'.at (by rw [Nat.zero_add]; match i, hv with | 0, hv => exact hv | 1, hv => exact hv | 2, hv => exact hv | i + 3, hv => simp at hv)); rfl)
  refine (toWell_any X Y R wB).mono ?_
  rintro e w0' ⟨rfl, hb0'⟩
  have hA00' := hA3'.later hb0'
  have hR00' := hR3'.later hb0'
  have hB00 := hB3.later hb0'
  have HB00 := Lib.hid (below_next HB.out hb0')
  clear hb0' hA3' hR3' hB3
  go_wp2_with ((with_reducible refine wpList_putAt (T := 44) (o := 0) (cs := #[.int .i8 X, .int .i8 Y, .float .f32 R]) (new := #[.int .i8 X, .int .i8 Y, .float .f32 R, .int .i8 0, .int .i8 0]) ?_ ?_ hB00 ?_ ?_ ?_ ?_ ?_ ?_); (exact sizeWell); (exact by simp [Value.oneCell']); (exact by simp); rfl; (exact fun i hi => by match i, hi with | 0, _ => rfl | 1, _ => rfl | 2, _ => rfl | 3, _ => rfl | 4, _ => rfl | i + 5, hi => simp at hi; omega); rfl; rfl)
  intro w2 s2 b2 k2
  have hA12' := hA00'.grown k2 (by omega)
  have hR12' := hR00'.grown k2 (by omega)
  have HB2 := Lib.hid (below_grown HB00.out k2 HB00.out.size nW)
  clear hB00 s2
  have c3 : w2.cell? ⟨A, 3, none⟩ = some (.int .i8 px) := hA12'.at rfl
  go_wp2_with ((with_reducible refine wpList_gateS ?_); refine wpList_put1 (v := .int .i8 px) size8 b2 (by simp) rfl rfl rfl rfl ?_)
  intro w3 s3 b3 k3
  have hA13' := hA12'.grown k3 (by omega)
  have hR13' := hR12'.grown k3 (by omega)
  have HB3 := Lib.hid (below_grown HB2.out k3 HB2.out.size nW)
  clear b2 c3
  have c4 : w3.cell? ⟨A, 4, none⟩ = some (.int .i8 py) := hA13'.at rfl
  go_wp2_with ((with_reducible refine wpList_gateS ?_); refine wpList_put1 (v := .int .i8 py) size8 b3 (by simp) rfl rfl rfl rfl ?_)
  intro w4 s4 b4 k4
  have hA14' := hA13'.grown k4 (by omega)
  have hR14' := hR13'.grown k4 (by omega)
  have HB4 := Lib.hid (below_grown HB3.out k4 HB3.out.size nW)
  clear b3 c4
  have bl : Blk w4 B #[.int .i8 X, .int .i8 Y, .float .f32 R, .int .i8 px, .int .i8 py] 46 := b4
  go_wp2_with (first | ((with_reducible refine wpList_get bl Try.underlying46 rfl (by kernel_rfl) ?_ ?_); rfl) | ((with_reducible refine wpList_gateS ?_); refine wpList_put (cells := #[.int .i8 X, .int .i8 Y, .float .f32 R, .int .i8 px, .int .i8 py]) hR14' sizeSt rfl (by simp [Value.oneCell']) rfl rfl ?_))
  intro w9 s9 b9 k9
  go_wp2_with fail
  refine ret_cell1 rfl rfl (run_loadVar_row w9 Q _ _ _ _ _ b9 Try.underlying46 rfl (by kernel_rfl)) rfl ⟨rfl, ?_⟩
  exact below_grown HB4.out k9 HB4.out.size nWR

end Go.Proofs.Ytonmdkhfongmhaa
