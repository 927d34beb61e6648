/- The laws' copies of an aquifer, a well, a reading and a site. -/
import Derived.Test.YtonmdkhfongmhaaDoorWok
import Derived.Test.YtonmdkhfongmhaaDoorFlist
import Derived.Test.YtonmdkhfongmhaaDoorMid
import Derived.OwnWalk
import Derived.Deep.MidRow
namespace Go.Proofs.YtonmdkhfongmhaaDoor
open Go.RowKit

theorem size16 : (Tryd.prog.info? 30).map (·.size) = some 1 := by kernel_rfl
theorem size64 : (Tryd.prog.info? 2).map (·.size) = some 1 := by kernel_rfl
theorem sizeRd : (Tryd.prog.info? 32).map (·.size) = some 2 := by kernel_rfl
theorem sizeRdL : (Tryd.prog.info? 34).map (·.size) = some 2 := by kernel_rfl
theorem newR (w : World) : (Instr.alloc 32 true (.tuple #[])).run Tryd.prog w = .ok (.pointer (some ⟨w.heap.size, 0, none⟩)) (w.alloc (.cells #[.int .i64 0, .int .i16 0] 32)) := by kernel_rfl
theorem range_below {w w' : World} {b o : Nat} {cs : List Value} (h : w.rangeAt b o cs) (hb : Below w.heap.size w w') : w'.rangeAt b o cs := fun j v hv => cell_below hb (h j v hv)
/-- Only at a load. -/
theorem wpList_gateL {P : Program} {ops : Array Oper} {Q : Exit → Act → World → Prop} {rest : List Oper} {a : Act} {w : World} {dst : Option Tmp} {ty T : TypeId} {X : Operand} {pos : String} {after : Array Edge}
    (h : Gate (wpList P ops Q (⟨dst, .load T X, ty, pos, after, none⟩ :: rest) a w)) : wpList P ops Q (⟨dst, .load T X, ty, pos, after, none⟩ :: rest) a w := h
theorem take_more' {α : Type} {l : List α} {j : Nat} {c : α} (h : l[j]? = some c) : l.take (j + 1) = l.take j ++ [c] := by rw [List.take_add_one, h]; rfl

set_option maxRecDepth 100000 in
set_option maxHeartbeats 1600000 in
theorem toReading_any (t l : Int) (w : World) :
    Calls Tryd.prog 11 #[.agg #[.int .i64 t, .int .i16 l]] w fun e w' => e = .returned (.agg #[.int .i64 t, .int .i16 l]) ∧ Below w.heap.size w w' := by
  go_enter Tryd.func11, Tryd.ntmps11
  go_wp2_with (with_reducible refine wpList_box rfl ?_)
  intro A wA hA1 hA2 hA3 hA4
  go_wp2_with (with_reducible refine wpList_new newR ?_)
  intro Q wR hR1 hR2 hR3 hR4
  go_wp2_with (with_reducible refine wpList_new newR ?_)
  intro B wB hB1 hB2 hB3 hB4
  have hA3' := (hA3.later hR4).later hB4
  have hR3' := hR3.later hB4
  have HB := Lib.hid (below_next (below_next hA4 hR4) hB4)
  have sA := hA4.size
  have sR := hR4.size
  have nA : A < B := by omega
  have nR : Q < B := by omega
  have nW : w.heap.size ≤ B := by omega
  have nWR : w.heap.size ≤ Q := by omega
  clear hA3 hR3 hA4 hR4 hB4
  have c0 : wB.cell? ⟨A, 0, none⟩ = some (.int .i64 t) := hA3'.at rfl
  go_wp2_with ((with_reducible refine wpList_gateS ?_); refine wpList_put1 (v := .int .i64 t) size64 hB3 (by simp) rfl rfl rfl rfl ?_)
  intro w0 s0 b0 k0
  have hA10' := hA3'.grown k0 (by omega)
  have hR10' := hR3'.grown k0 (by omega)
  have HB0 := Lib.hid (below_grown HB.out k0 HB.out.size nW)
  clear hB3 c0
  have c1 : w0.cell? ⟨A, 1, none⟩ = some (.int .i16 l) := hA10'.at rfl
  go_wp2_with ((with_reducible refine wpList_gateS ?_); refine wpList_put1 (v := .int .i16 l) size16 b0 (by simp) rfl rfl rfl rfl ?_)
  intro w1 s1 b1 k1
  have hA11' := hA10'.grown k1 (by omega)
  have hR11' := hR10'.grown k1 (by omega)
  have HB1 := Lib.hid (below_grown HB0.out k1 HB0.out.size nW)
  clear b0 c1
  have bl : Blk w1 B #[.int .i64 t, .int .i16 l] 32 := b1
  go_wp2_with (first | ((with_reducible refine wpList_get bl Tryd.underlying32 rfl (by kernel_rfl) ?_ ?_); rfl) | ((with_reducible refine wpList_gateS ?_); refine wpList_put (cells := #[.int .i64 t, .int .i16 l]) hR11' sizeRd rfl (by simp [Value.oneCell']) rfl rfl ?_))
  intro w9 s9 b9 k9
  go_wp2_with fail
  refine ret_cell1 rfl rfl (run_loadVar_row w9 Q _ _ _ _ _ b9 Tryd.underlying32 rfl (by kernel_rfl)) rfl ⟨rfl, ?_⟩
  exact below_grown HB1.out k9 HB1.out.size nWR

end Go.Proofs.YtonmdkhfongmhaaDoor
