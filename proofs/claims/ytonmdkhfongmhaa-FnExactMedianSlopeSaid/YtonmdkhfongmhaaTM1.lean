/- Readings, aquifers and sites: copied, opened, which are right; differences. -/
import Derived.Test.YtonmdkhfongmhaaWdown
import Derived.Test.YtonmdkhfongmhaaFlist
import Derived.Test.YtonmdkhfongmhaaMid
import Derived.OwnWalk
import Derived.Deep.MidRow
import Derived.Laws.OwnMore
import Derived.Test.YtonmdkhfongmhaaOpenW
import Derived.Deep.Slices
import Derived.Test.YtonmdkhfongmhaaEq
namespace Go.Proofs.Ytonmdkhfongmhaa
open Go.RowKit

theorem size8 : (Try.prog.info? 35).map (·.size) = some 1 := by kernel_rfl
theorem size16 : (Try.prog.info? 79).map (·.size) = some 1 := by kernel_rfl
theorem size64 : (Try.prog.info? 2).map (·.size) = some 1 := by kernel_rfl
theorem sizeAq : (Try.prog.info? 42).map (·.size) = some 2 := by kernel_rfl
theorem sizeAqL : (Try.prog.info? 34).map (·.size) = some 2 := by kernel_rfl
theorem sizeWell : (Try.prog.info? 44).map (·.size) = some 3 := by kernel_rfl
theorem sizeWellL : (Try.prog.info? 37).map (·.size) = some 3 := by kernel_rfl
theorem sizeRd : (Try.prog.info? 81).map (·.size) = some 2 := by kernel_rfl
theorem sizeRdL : (Try.prog.info? 85).map (·.size) = some 2 := by kernel_rfl
theorem sizeSt : (Try.prog.info? 46).map (·.size) = some 5 := by kernel_rfl
theorem sizeStL : (Try.prog.info? 39).map (·.size) = some 5 := by kernel_rfl
theorem newA (w : World) : (Instr.alloc 42 true (.tuple #[])).run Try.prog w = .ok (.pointer (some ⟨w.heap.size, 0, none⟩)) (w.alloc (.cells #[.float .f32 0, .float .f32 0] 42)) := by kernel_rfl
theorem newW (w : World) : (Instr.alloc 44 true (.tuple #[])).run Try.prog w = .ok (.pointer (some ⟨w.heap.size, 0, none⟩)) (w.alloc (.cells #[.int .i8 0, .int .i8 0, .float .f32 0] 44)) := by kernel_rfl
theorem newR (w : World) : (Instr.alloc 81 true (.tuple #[])).run Try.prog w = .ok (.pointer (some ⟨w.heap.size, 0, none⟩)) (w.alloc (.cells #[.int .i64 0, .int .i16 0] 81)) := by kernel_rfl
theorem newS (w : World) : (Instr.alloc 46 true (.tuple #[])).run Try.prog w = .ok (.pointer (some ⟨w.heap.size, 0, none⟩)) (w.alloc (.cells #[.int .i8 0, .int .i8 0, .float .f32 0, .int .i8 0, .int .i8 0] 46)) := by kernel_rfl
theorem range_below {w w' : World} {b o : Nat} {cs : List Value} (h : w.rangeAt b o cs) (hb : Below w.heap.size w w') : w'.rangeAt b o cs := fun j v hv => cell_below hb (h j v hv)
/-- Only at a load. -/
theorem wpList_gateL {P : Program} {ops : Array Oper} {Q : Exit → Act → World → Prop} {rest : List Oper} {a : Act} {w : World} {dst : Option Tmp} {ty T : TypeId} {X : Operand} {pos : String} {after : Array Edge}
    (h : Gate (wpList P ops Q (⟨dst, .load T X, ty, pos, after, none⟩ :: rest) a w)) : wpList P ops Q (⟨dst, .load T X, ty, pos, after, none⟩ :: rest) a w := h
theorem take_more' {α : Type} {l : List α} {j : Nat} {c : α} (h : l[j]? = some c) : l.take (j + 1) = l.take j ++ [c] := by rw [List.take_add_one, h]; rfl

set_option maxRecDepth 100000 in
set_option maxHeartbeats 1600000 in
theorem toAquifer_any (T S : Nat) (w : World) :
    Calls Try.prog 19 #[.agg #[.float .f32 T, .float .f32 S]] w fun e w' => e = .returned (.agg #[.float .f32 T, .float .f32 S]) ∧ Below w.heap.size w w' := by
  go_enter Try.func19, Try.ntmps19
  go_wp2_with (with_reducible refine wpList_box rfl ?_)
  intro A wA hA1 hA2 hA3 hA4
  go_wp2_with (with_reducible refine wpList_new newA ?_)
  intro Q wR hR1 hR2 hR3 hR4
  go_wp2_with (with_reducible refine wpList_new newA ?_)
  intro B wB hB1 hB2 hB3 hB4
  have hA3' := (hA3.later hR4).later hB4
  have hR3' := hR3.later hB4
  have HB := Lib.hid (below_next (below_next hA4 hR4) hB4)
  have sA := hA4.size
  have sR := hR4.size
  have nA : A < B := by omega
  have nR : Q < B := by omega
  have nW : w.heap.size ≤ B := by omega
  have nWR : w.heap.size ≤ Q := by omega
  clear hA3 hR3 hA4 hR4 hB4
  have c0 : wB.cell? ⟨A, 0, none⟩ = some (.float .f32 T) := hA3'.at rfl
  go_wp2_with ((with_reducible refine wpList_gateS ?_); refine wpList_put1 (v := .float .f32 T) size32 hB3 (by simp) rfl rfl rfl rfl ?_)
  intro w0 s0 b0 k0
  have hA10' := hA3'.grown k0 (by omega)
  have hR10' := hR3'.grown k0 (by omega)
  have HB0 := Lib.hid (below_grown HB.out k0 HB.out.size nW)
  clear hB3 c0
  have c1 : w0.cell? ⟨A, 1, none⟩ = some (.float .f32 S) := hA10'.at rfl
  go_wp2_with ((with_reducible refine wpList_gateS ?_); refine wpList_put1 (v := .float .f32 S) size32 b0 (by simp) rfl rfl rfl rfl ?_)
  intro w1 s1 b1 k1
  have hA11' := hA10'.grown k1 (by omega)
  have hR11' := hR10'.grown k1 (by omega)
  have HB1 := Lib.hid (below_grown HB0.out k1 HB0.out.size nW)
  clear b0 c1
  have bl : Blk w1 B #[.float .f32 T, .float .f32 S] 42 := b1
  go_wp2_with (first | ((with_reducible refine wpList_get bl Try.underlying42 rfl (by kernel_rfl) ?_ ?_); rfl) | ((with_reducible refine wpList_gateS ?_); refine wpList_put (cells := #[.float .f32 T, .float .f32 S]) hR11' sizeAq rfl (by simp [Value.oneCell']) rfl rfl ?_))
  intro w9 s9 b9 k9
  go_wp2_with fail
  refine ret_cell1 rfl rfl (run_loadVar_row w9 Q _ _ _ _ _ b9 Try.underlying42 rfl (by kernel_rfl)) rfl ⟨rfl, ?_⟩
  exact below_grown HB1.out k9 HB1.out.size nWR

set_option maxRecDepth 100000 in
set_option maxHeartbeats 1600000 in
theorem toWell_any (X Y : Int) (R : Nat) (w : World) :
    Calls Try.prog 62 #[.agg #[.int .i8 X, .int .i8 Y, .float .f32 R]] w fun e w' => e = .returned (.agg #[.int .i8 X, .int .i8 Y, .float .f32 R]) ∧ Below w.heap.size w w' := by
  go_enter Try.func62, Try.ntmps62
  go_wp2_with (with_reducible refine wpList_box rfl ?_)
  intro A wA hA1 hA2 hA3 hA4
  go_wp2_with (with_reducible refine wpList_new newW ?_)
  intro Q wR hR1 hR2 hR3 hR4
  go_wp2_with (with_reducible refine wpList_new newW ?_)
  intro B wB hB1 hB2 hB3 hB4
  have hA3' := (hA3.later hR4).later hB4
  have hR3' := hR3.later hB4
  have HB := Lib.hid (below_next (below_next hA4 hR4) hB4)
  have sA := hA4.size
  have sR := hR4.size
  have nA : A < B := by omega
  have nR : Q < B := by omega
  have nW : w.heap.size ≤ B := by omega
  have nWR : w.heap.size ≤ Q := by omega
  clear hA3 hR3 hA4 hR4 hB4
  have c0 : wB.cell? ⟨A, 0, none⟩ = some (.int .i8 X) := hA3'.at rfl
  go_wp2_with ((with_reducible refine wpList_gateS ?_); refine wpList_put1 (v := .int .i8 X) size8 hB3 (by simp) rfl rfl rfl rfl ?_)
  intro w0 s0 b0 k0
  have hA10' := hA3'.grown k0 (by omega)
  have hR10' := hR3'.grown k0 (by omega)
  have HB0 := Lib.hid (below_grown HB.out k0 HB.out.size nW)
  clear hB3 c0
  have c1 : w0.cell? ⟨A, 1, none⟩ = some (.int .i8 Y) := hA10'.at rfl
  go_wp2_with ((with_reducible refine wpList_gateS ?_); refine wpList_put1 (v := .int .i8 Y) size8 b0 (by simp) rfl rfl rfl rfl ?_)
  intro w1 s1 b1 k1
  have hA11' := hA10'.grown k1 (by omega)
  have hR11' := hR10'.grown k1 (by omega)
  have HB1 := Lib.hid (below_grown HB0.out k1 HB0.out.size nW)
  clear b0 c1
  have c2 : w1.cell? ⟨A, 2, none⟩ = some (.float .f32 R) := hA11'.at rfl
  go_wp2_with ((with_reducible refine wpList_gateS ?_); refine wpList_put1 (v := .float .f32 R) size32 b1 (by simp) rfl rfl rfl rfl ?_)
  intro w2 s2 b2 k2
  have hA12' := hA11'.grown k2 (by omega)
  have hR12' := hR11'.grown k2 (by omega)
  have HB2 := Lib.hid (below_grown HB1.out k2 HB1.out.size nW)
  clear b1 c2
  have bl : Blk w2 B #[.int .i8 X, .int .i8 Y, .float .f32 R] 44 := b2
  go_wp2_with (first | ((with_reducible refine wpList_get bl Try.underlying44 rfl (by kernel_rfl) ?_ ?_); rfl) | ((with_reducible refine wpList_gateS ?_); refine wpList_put (cells := #[.int .i8 X, .int .i8 Y, .float .f32 R]) hR12' sizeWell rfl (by simp [Value.oneCell']) rfl rfl ?_))
  intro w9 s9 b9 k9
  go_wp2_with fail
  refine ret_cell1 rfl rfl (run_loadVar_row w9 Q _ _ _ _ _ b9 Try.underlying44 rfl (by kernel_rfl)) rfl ⟨rfl, ?_⟩
  exact below_grown HB2.out k9 HB2.out.size nWR

set_option maxRecDepth 100000 in
set_option maxHeartbeats 1600000 in
theorem toReading_any (t l : Int) (w : World) :
    Calls Try.prog 51 #[.agg #[.int .i64 t, .int .i16 l]] w fun e w' => e = .returned (.agg #[.int .i64 t, .int .i16 l]) ∧ Below w.heap.size w w' := by
  go_enter Try.func51, Try.ntmps51
  go_wp2_with (with_reducible refine wpList_box rfl ?_)
  intro A wA hA1 hA2 hA3 hA4
  go_wp2_with (with_reducible refine wpList_new newR ?_)
  intro Q wR hR1 hR2 hR3 hR4
  go_wp2_with (with_reducible refine wpList_new newR ?_)
  intro B wB hB1 hB2 hB3 hB4
  have hA3' := (hA3.later hR4).later hB4
  have hR3' := hR3.later hB4
  have HB := Lib.hid (below_next (below_next hA4 hR4) hB4)
  have sA := hA4.size
  have sR := hR4.size
  have nA : A < B := by omega
  have nR : Q < B := by omega
  have nW : w.heap.size ≤ B := by omega
  have nWR : w.heap.size ≤ Q := by omega
  clear hA3 hR3 hA4 hR4 hB4
  have c0 : wB.cell? ⟨A, 0, none⟩ = some (.int .i64 t) := hA3'.at rfl
  go_wp2_with ((with_reducible refine wpList_gateS ?_); refine wpList_put1 (v := .int .i64 t) size64 hB3 (by simp) rfl rfl rfl rfl ?_)
  intro w0 s0 b0 k0
  have hA10' := hA3'.grown k0 (by omega)
  have hR10' := hR3'.grown k0 (by omega)
  have HB0 := Lib.hid (below_grown HB.out k0 HB.out.size nW)
  clear hB3 c0
  have c1 : w0.cell? ⟨A, 1, none⟩ = some (.int .i16 l) := hA10'.at rfl
  go_wp2_with ((with_reducible refine wpList_gateS ?_); refine wpList_put1 (v := .int .i16 l) size16 b0 (by simp) rfl rfl rfl rfl ?_)
  intro w1 s1 b1 k1
  have hA11' := hA10'.grown k1 (by omega)
  have hR11' := hR10'.grown k1 (by omega)
  have HB1 := Lib.hid (below_grown HB0.out k1 HB0.out.size nW)
  clear b0 c1
  have bl : Blk w1 B #[.int .i64 t, .int .i16 l] 81 := b1
  go_wp2_with (first | ((with_reducible refine wpList_get bl Try.underlying81 rfl (by kernel_rfl) ?_ ?_); rfl) | ((with_reducible refine wpList_gateS ?_); refine wpList_put (cells := #[.int .i64 t, .int .i16 l]) hR11' sizeRd rfl (by simp [Value.oneCell']) rfl rfl ?_))
  intro w9 s9 b9 k9
  go_wp2_with fail
  refine ret_cell1 rfl rfl (run_loadVar_row w9 Q _ _ _ _ _ b9 Try.underlying81 rfl (by kernel_rfl)) rfl ⟨rfl, ?_⟩
  exact below_grown HB1.out k9 HB1.out.size nWR

set_option maxRecDepth 100000 in
set_option maxHeartbeats 1600000 in
theorem toSite_any (X Y : Int) (R : Nat) (px py : Int) (w : World) :
    Calls Try.prog 20 #[.agg #[.int .i8 X, .int .i8 Y, .float .f32 R, .int .i8 px, .int .i8 py]] w fun e w' => e = .returned (.agg #[.int .i8 X, .int .i8 Y, .float .f32 R, .int .i8 px, .int .i8 py]) ∧ Below w.heap.size w w' := by
  go_enter Try.func20, Try.ntmps20
  go_wp2_with (with_reducible refine wpList_box rfl ?_)
  intro A wA hA1 hA2 hA3 hA4
  go_wp2_with (with_reducible refine wpList_new newS ?_)
  intro Q wR hR1 hR2 hR3 hR4
  go_wp2_with (with_reducible refine wpList_new newS ?_)
  intro B wB hB1 hB2 hB3 hB4
  have hA3' := (hA3.later hR4).later hB4
  have hR3' := hR3.later hB4
  have HB := Lib.hid (below_next (below_next hA4 hR4) hB4)
  have sA := hA4.size
  have sR := hR4.size
  have nA : A < B := by omega
  have nR : Q < B := by omega
  have nW : w.heap.size ≤ B := by omega
  have nWR : w.heap.size ≤ Q := by omega
  clear hA3 hR3 hA4 hR4 hB4
  go_wp2_with ((with_reducible refine wpList_getAt (T := 37) (b := A) (o := 0) (cs := #[.int .i8 X, .int .i8 Y, .float .f32 R]) Try.underlying37 ?_ ?_ ?_ ?_ ?_); rfl; exact sizeWellL; (exact fun i v hv => hA3'.at (by rw [Nat.zero_add]; match i, hv with | 0, hv => exact hv | 1, hv => exact hv | 2, hv => exact hv | i + 3, hv => simp at hv)); rfl)
  refine (toWell_any X Y R wB).mono ?_
  rintro e w0' ⟨rfl, hb0'⟩
  have hA00' := hA3'.later hb0'
  have hR00' := hR3'.later hb0'
  have hB00 := hB3.later hb0'
  have HB00 := Lib.hid (below_next HB.out hb0')
  clear hb0' hA3' hR3' hB3
  go_wp2_with ((with_reducible refine wpList_putAt (T := 44) (o := 0) (cs := #[.int .i8 X, .int .i8 Y, .float .f32 R]) (new := #[.int .i8 X, .int .i8 Y, .float .f32 R, .int .i8 0, .int .i8 0]) ?_ ?_ hB00 ?_ ?_ ?_ ?_ ?_ ?_); (exact sizeWell); (exact by simp [Value.oneCell']); (exact by simp); rfl; (exact fun i hi => by match i, hi with | 0, _ => rfl | 1, _ => rfl | 2, _ => rfl | 3, _ => rfl | 4, _ => rfl | i + 5, hi => simp at hi; omega); rfl; rfl)
  intro w2 s2 b2 k2
  have hA12' := hA00'.grown k2 (by omega)
  have hR12' := hR00'.grown k2 (by omega)
  have HB2 := Lib.hid (below_grown HB00.out k2 HB00.out.size nW)
  clear hB00 s2
  have c3 : w2.cell? ⟨A, 3, none⟩ = some (.int .i8 px) := hA12'.at rfl
  go_wp2_with ((with_reducible refine wpList_gateS ?_); refine wpList_put1 (v := .int .i8 px) size8 b2 (by simp) rfl rfl rfl rfl ?_)
  intro w3 s3 b3 k3
  have hA13' := hA12'.grown k3 (by omega)
  have hR13' := hR12'.grown k3 (by omega)
  have HB3 := Lib.hid (below_grown HB2.out k3 HB2.out.size nW)
  clear b2 c3
  have c4 : w3.cell? ⟨A, 4, none⟩ = some (.int .i8 py) := hA13'.at rfl
  go_wp2_with ((with_reducible refine wpList_gateS ?_); refine wpList_put1 (v := .int .i8 py) size8 b3 (by simp) rfl rfl rfl rfl ?_)
  intro w4 s4 b4 k4
  have hA14' := hA13'.grown k4 (by omega)
  have hR14' := hR13'.grown k4 (by omega)
  have HB4 := Lib.hid (below_grown HB3.out k4 HB3.out.size nW)
  clear b3 c4
  have bl : Blk w4 B #[.int .i8 X, .int .i8 Y, .float .f32 R, .int .i8 px, .int .i8 py] 46 := b4
  go_wp2_with (first | ((with_reducible refine wpList_get bl Try.underlying46 rfl (by kernel_rfl) ?_ ?_); rfl) | ((with_reducible refine wpList_gateS ?_); refine wpList_put (cells := #[.int .i8 X, .int .i8 Y, .float .f32 R, .int .i8 px, .int .i8 py]) hR14' sizeSt rfl (by simp [Value.oneCell']) rfl rfl ?_))
  intro w9 s9 b9 k9
  go_wp2_with fail
  refine ret_cell1 rfl rfl (run_loadVar_row w9 Q _ _ _ _ _ b9 Try.underlying46 rfl (by kernel_rfl)) rfl ⟨rfl, ?_⟩
  exact below_grown HB4.out k9 HB4.out.size nWR

end Go.Proofs.Ytonmdkhfongmhaa

namespace Go.Proofs.Ytonmdkhfongmhaa
open Go.RowKit

/-- A reading. -/
structure Rd where
  t : Int
  l : Int
def Rd.Rng (e : Rd) : Prop := (-9223372036854775808 ≤ e.t ∧ e.t ≤ 9223372036854775807) ∧ (-32768 ≤ e.l ∧ e.l ≤ 32767)
def Rd.cells (e : Rd) : List Value := [.int .i64 e.t, .int .i16 e.l]
/-- An aquifer. -/
structure Aq where
  T : Nat
  S : Nat
def Aq.Rng (e : Aq) : Prop := e.T < 2 ^ 32 ∧ e.S < 2 ^ 32
def Aq.cells (e : Aq) : List Value := [.float .f32 e.T, .float .f32 e.S]
/-- A list of readings that a slice shows. -/
def RAt (w : World) (v : Value) (l : List Rd) : Prop :=
  ∃ a cap, v = .slice a l.length cap ∧ ∀ (j : Nat) (e : Rd), l[j]? = some e → e.Rng ∧ ∃ g, a = some ⟨g, 0, none⟩ ∧ w.rangeAt g (j * 2) e.cells
theorem RAt.far {w w' : World} {v : Value} {l : List Rd} (h : RAt w v l) (hb : Below w.heap.size w w') : RAt w' v l := by
  obtain ⟨a, cap, e, hL⟩ := h
  refine ⟨a, cap, e, fun j x hx => ?_⟩
  obtain ⟨h1, g, h2, h3⟩ := hL j x hx
  exact ⟨h1, g, h2, range_below h3 hb⟩
theorem RAt.rng {w : World} {v : Value} {l : List Rd} (h : RAt w v l) : ∀ e ∈ l, e.Rng := by
  obtain ⟨a, cap, _, hL⟩ := h
  intro e he
  obtain ⟨j, hj⟩ := List.getElem?_of_mem he
  exact (hL j e hj).1
/-- A list of aquifers that a slice shows. -/
def AAt (w : World) (v : Value) (l : List Aq) : Prop :=
  ∃ a cap, v = .slice a l.length cap ∧ ∀ (j : Nat) (e : Aq), l[j]? = some e → e.Rng ∧ ∃ g, a = some ⟨g, 0, none⟩ ∧ w.rangeAt g (j * 2) e.cells
theorem AAt.far {w w' : World} {v : Value} {l : List Aq} (h : AAt w v l) (hb : Below w.heap.size w w') : AAt w' v l := by
  obtain ⟨a, cap, e, hL⟩ := h
  refine ⟨a, cap, e, fun j x hx => ?_⟩
  obtain ⟨h1, g, h2, h3⟩ := hL j x hx
  exact ⟨h1, g, h2, range_below h3 hb⟩
theorem AAt.rng {w : World} {v : Value} {l : List Aq} (h : AAt w v l) : ∀ e ∈ l, e.Rng := by
  obtain ⟨a, cap, _, hL⟩ := h
  intro e he
  obtain ⟨j, hj⟩ := List.getElem?_of_mem he
  exact (hL j e hj).1
theorem blk_there {w : World} {B n o k : Nat} {cur : Array Value} {t : TypeId} (h : Blk w B cur t) (hs : cur.size = n) (hk : o + k ≤ n) : w.there B o k := fun j hj => by
  refine ⟨?_, h.free _⟩
  rw [h.at (i := o + j) (v := cur[o + j]'(by omega)) (by simp [show o + j < cur.size by omega])]
  rfl

/-- A list of wells of the laws that a slice shows. -/
def RLAt (w : World) (v : Value) (l : List Rd) : Prop :=
  ∃ a cap, v = .slice a l.length cap ∧ ∀ (j : Nat) (e : Rd), l[j]? = some e → e.Rng ∧ ∃ g o, a = some ⟨g, o, none⟩ ∧ w.rangeAt g (o + j * 2) e.cells
theorem RLAt.far {w w' : World} {v : Value} {l : List Rd} (h : RLAt w v l) (hb : Below w.heap.size w w') : RLAt w' v l := by
  obtain ⟨a, cap, e, hL⟩ := h
  refine ⟨a, cap, e, fun j x hx => ?_⟩
  obtain ⟨h1, g, o, h2, h3⟩ := hL j x hx
  exact ⟨h1, g, o, h2, range_below h3 hb⟩
theorem RLAt.rng {w : World} {v : Value} {l : List Rd} (h : RLAt w v l) : ∀ e ∈ l, e.Rng := by
  obtain ⟨a, cap, _, hL⟩ := h
  intro e he
  obtain ⟨j, hj⟩ := List.getElem?_of_mem he
  exact (hL j e hj).1
theorem infoRd : (Try.prog.info? 81).map (fun i => (i.zero, i.size, i.bytes)) = some (some (.agg #[.int .i64 0, .int .i16 0]), 2, 16) := by kernel_rfl

/-- A list of wells in a block of its own. -/
def RBlk (w : World) (B : Nat) (l : List Rd) : Prop :=
  ∃ cur : Array Value, Blk w B cur 81 ∧ cur.size = l.length * 2 ∧ ∀ (i : Nat) (e : Rd), l[i]? = some e → w.rangeAt B (i * 2) e.cells
theorem RBlk.at' {w : World} {B : Nat} {l : List Rd} (h : RBlk w B l) (hr : ∀ e ∈ l, e.Rng) : RAt w (.slice (some ⟨B, 0, none⟩) l.length l.length) l := by
  obtain ⟨cur, h1, h2, h3⟩ := h
  exact ⟨_, _, rfl, fun j e he => ⟨hr e (List.mem_of_getElem? he), B, rfl, h3 j e he⟩⟩
theorem RBlk.far {w w' : World} {B : Nat} {l : List Rd} (h : RBlk w B l) (hb : Below w.heap.size w w') : RBlk w' B l := by
  obtain ⟨cur, h1, h2, h3⟩ := h
  exact ⟨cur, h1.later hb, h2, fun i e he => range_below (h3 i e he) hb⟩
def EqRRel (l : List Rd) (w : World) (v5 : Value) (wr : World) : Prop := ∃ j : Nat, j ≤ l.length ∧ v5 = .int .i64 j ∧ Below w.heap.size w wr
def CopyR (l : List Rd) (wm : World) (B : Nat) (v : Value) (wr : World) : Prop :=
  ∃ (j : Nat) (cur : Array Value), j ≤ l.length ∧ v = .int .i64 j ∧ Blk wr B cur 81 ∧ cur.size = l.length * 2 ∧ (∀ (i : Nat) (e : Rd), i < j → l[i]? = some e → wr.rangeAt B (i * 2) e.cells) ∧ wm.grownBy wr (some B)

set_option maxRecDepth 100000 in
set_option maxHeartbeats 1600000 in
theorem toReadingS_any (v : Value) (l : List Rd) (w : World) (hlen : l.length ≤ 1048576) (hv : RLAt w v l) :
    Calls Try.prog 14 #[v] w fun e w' => ∃ B, e = .returned (.slice (some ⟨B, 0, none⟩) l.length l.length) ∧ w.heap.size ≤ B ∧ RBlk w' B l ∧ Below w.heap.size w w' := by
  obtain ⟨i0, hi, hz0, hz1, hz2⟩ := info_parts infoRd
  obtain ⟨aL, cap, rfl, hL⟩ := hv
  have HL := Lib.hid hL
  clear hL
  go_enter Try.func14, Try.ntmps14
  go_wp2_with (refine wpList_make_full _ rfl _ _ 27 rfl w.heap.size 81 i0 (.agg #[.int .i64 0, .int .i16 0]) 2 Try.underlying27 hi hz0 hz1 .i64 .i64 (l.length : Int) (l.length : Int) l.length rfl rfl rfl rfl (by rw [hz2]; omega) (by unfold maxLen; omega) (Nat.le_refl _) ?_)
  intro w1 hown hgr
  obtain ⟨B, hBe⟩ : ∃ B, w.heap.size = B := ⟨_, rfl⟩
  have hbel1 : Hid (Below w.heap.size w w1) := ⟨hgr.os, hgr.tape, hgr.output, hgr.size, fun k hk => hgr.block k hk (by simp)⟩
  have HK1 : Hid (∃ cur, Blk w1 B cur 81 ∧ cur.size = l.length * 2) := by
    obtain ⟨_, h2 | ⟨g, cap', cur, he, hb, hg, hn, hm, hs, _⟩⟩ := hown
    · cases h2.1
    · cases he
      rw [hBe] at hg
      exact ⟨cur, hg, hs⟩
  rw [hBe]
  have HBE := Lib.hid hBe
  clear hown hgr hBe
  go_wp2_with fail
  go_loopw [4] (fun v4 wr => CopyR l w1 B v4 wr) (fun v4 _ => l.length - (intOf v4).toNat)
  case atStart =>
    obtain ⟨cur, h1, h2⟩ := HK1.out
    exact ⟨0, cur, by omega, rfl, h1, h2, fun i e hi => absurd hi (by omega), grown_refl _ _⟩
  case round =>
    obtain ⟨j, cur, hj, rfl, hb, hsz, hall, hgr⟩ := hrel
    have HB := Lib.hid hb
    have HALL := Lib.hid hall
    have HGR := Lib.hid hgr
    clear hb hall hgr
    have hle1 : B < w1.heap.size := by obtain ⟨c, h1, _⟩ := HK1.out; exact h1.lt
    by_cases hlt : j < l.length
    · obtain ⟨e, he⟩ : ∃ e, l[j]? = some e := ⟨_, List.getElem?_eq_getElem hlt⟩
      obtain ⟨hrng, g, o, rfl, hq⟩ := HL.out j e he
      have hgB : g < B := by rw [← HBE.out]; exact block_lt_of_cell (hq 0 _ rfl)
      have HQ : Hid (wr.rangeAt g (o + j * 2) e.cells) := fun i u hu => cell_grown (cell_below hbel1.out (hq i u hu)) HGR.out (by omega)
      have HE := Lib.hid he
      have j1 : (j : Int) < (l.length : Int) := by omega
      clear hq he
      go_wp2_with (first | ((with_reducible refine wpList_gateL ?_); refine wpList_load_mid rfl _ _ rfl g (o + j * 2) rfl e.cells _ HQ.out Try.underlying85 rfl sizeRdL ?_) | (go_at_call 51; refine (toReading_any e.t e.l _).mono ?_; rintro e2 w2 ⟨rfl, hb2⟩; have HB2 := Lib.hid (HB.out.later hb2)) | ((with_reducible refine wpList_gateS ?_); refine wpList_store_mid rfl _ _ _ rfl B (j * 2) e.cells.toArray rfl rfl (blk_there HB2.out hsz (by show j * 2 + 2 ≤ _; omega)) sizeRd (by simp [Rd.cells, Value.oneCell']) ?_))
      obtain ⟨w3, hw3⟩ : ∃ w3, w2.setCells B (j * 2) e.cells.toArray.toList = w3 := ⟨_, rfl⟩
      have HS : Hid (∃ cur', Blk w3 B cur' 81 ∧ cur'.size = l.length * 2 ∧ (∀ (i : Nat) (e : Rd), i < j + 1 → l[i]? = some e → w3.rangeAt B (i * 2) e.cells) ∧ w1.grownBy w3 (some B)) := by
        rw [← hw3]
        obtain ⟨cur', h1, h2, _⟩ := setCells_blk e.cells.toArray.toList (j * 2) _ _ HB2.out
        refine ⟨cur', h1, by omega, fun i e' hi he' => ?_, grown_trans (grown_trans HGR.out (grown_below hb2)) (setCells_grown _ _ _)⟩
        by_cases e3 : i = j
        · subst e3
          rw [HE.out] at he'
          cases he'
          exact World.rangeAt_setCells_same _ _ _ _ (blk_there HB2.out hsz (by show i * 2 + 2 ≤ _; omega))
        · refine World.rangeAt_setCells_apart (range_below (HALL.out i e' (by omega) he') hb2) _ _ _ (.inr (.inl ?_))
          show i * 2 + 2 ≤ j * 2
          omega
      rw [hw3]
      clear hw3 hb2 HB2
      go_wp2_with fail
      go_roundw
      case rel =>
        obtain ⟨cur', h1, h2, h3, h4⟩ := HS.out
        exact ⟨j + 1, cur', by omega, by go_num, h1, h2, h3, h4⟩
      case measure => simp [intOf]; omega
    · have j1 : ¬ (j : Int) < (l.length : Int) := by omega
      go_wp2_with fail
      go_ret
      refine ⟨B, rfl, by rw [HBE.out]; exact Nat.le_refl _, ⟨cur, HB.out, hsz, fun i e he => HALL.out i e (by have := (List.getElem?_eq_some_iff.1 he).1; omega) he⟩, ?_⟩
      exact below_grown hbel1.out HGR.out hbel1.out.size (by rw [HBE.out]; exact Nat.le_refl _)

set_option maxHeartbeats 400000 in
theorem szReadingS_any (v : Value) (l : List Rd) (w : World) (hlen : l.length < 9223372036854775808) (hv : RLAt w v l) :
    Calls Try.prog 12 #[v, .int .i64 1048576] w fun e w' => e = .returned (.int .i64 (if l.length ≤ 1048576 then 1048576 - (l.length : Int) else -1)) ∧ w = w' := by
  obtain ⟨aL, cap, rfl, hL⟩ := hv
  clear hL
  by_cases h : l.length ≤ 1048576
  · rw [if_pos h]
    have h1 : ¬ (1048576 : Int) - (l.length : Int) < 0 := by omega
    go_enter Try.func12, Try.ntmps12
    go_wp2_with fail
    go_ret
    exact ⟨rfl, rfl⟩
  · rw [if_neg h]
    have h1 : (1048576 : Int) - (l.length : Int) < 0 := by omega
    go_enter Try.func12, Try.ntmps12
    go_wp2_with fail
    go_ret
    exact ⟨rfl, rfl⟩

set_option maxRecDepth 100000 in
set_option maxHeartbeats 800000 in
theorem eqReading_any (t l : Int) (w : World) :
    Calls Try.prog 58 #[.agg #[.int .i64 t, .int .i16 l], .agg #[.int .i64 t, .int .i16 l]] w (RetB true w) := by
  go_enter Try.func58, Try.ntmps58
  go_wp2_with (with_reducible refine wpList_box rfl ?_)
  intro A wA hA1 hA2 hA3 hA4
  go_wp2_with (with_reducible refine wpList_box rfl ?_)
  intro B wB hB1 hB2 hB3 hB4
  have a0 : wB.cell? ⟨A, 0, none⟩ = some (.int .i64 t) := (hA3.later hB4).at rfl
  have a1 : wB.cell? ⟨A, 1, none⟩ = some (.int .i16 l) := (hA3.later hB4).at rfl
  have b0 : wB.cell? ⟨B, 0, none⟩ = some (.int .i64 t) := hB3.at rfl
  have b1 : wB.cell? ⟨B, 1, none⟩ = some (.int .i16 l) := hB3.at rfl
  have HB := Lib.hid (below_next hA4 hB4)
  clear hA3 hA4 hB3 hB4
  go_wp2_with fail
  go_ret
  exact ⟨rfl, HB.out⟩

set_option maxRecDepth 100000 in
set_option maxHeartbeats 800000 in
theorem eqReadingS_any (v v' : Value) (l : List Rd) (w : World) (hlen : l.length ≤ 1048576) (hv : RAt w v l) (hv' : RAt w v' l) :
    Calls Try.prog 17 #[v, v'] w (RetB true w) := by
  obtain ⟨aL, cap, rfl, hL⟩ := hv
  obtain ⟨aL', cap', rfl, hL'⟩ := hv'
  have HL := Lib.hid hL
  have HL' := Lib.hid hL'
  clear hL hL'
  go_enter Try.func17, Try.ntmps17
  go_wp2_with fail
  go_loopw [5] (fun v5 wr => EqRRel l w v5 wr) (fun v5 _ => l.length - (intOf v5).toNat)
  case atStart => exact ⟨0, by omega, rfl, Below.refl _ _⟩
  case round =>
    obtain ⟨j, hj, rfl, hB⟩ := hrel
    have HB := Lib.hid hB
    clear hB
    by_cases hlt : j < l.length
    · obtain ⟨e, he⟩ : ∃ e, l[j]? = some e := ⟨_, List.getElem?_eq_getElem hlt⟩
      obtain ⟨_, g, rfl, hq⟩ := HL.out j e he
      obtain ⟨_, g', rfl, hq'⟩ := HL'.out j e he
      have c0 : ∀ z, (ext wr z).cell? ⟨g, j * 2, none⟩ = some (.int .i64 e.t) := fun z => ext_cell wr z (cell_below HB.out (hq 0 _ rfl))
      have c1 : ∀ z, (ext wr z).cell? ⟨g, j * 2 + 1, none⟩ = some (.int .i16 e.l) := fun z => ext_cell wr z (cell_below HB.out (hq 1 _ rfl))
      have d0 : ∀ z, (ext wr z).cell? ⟨g', j * 2, none⟩ = some (.int .i64 e.t) := fun z => ext_cell wr z (cell_below HB.out (hq' 0 _ rfl))
      have d1 : ∀ z, (ext wr z).cell? ⟨g', j * 2 + 1, none⟩ = some (.int .i16 e.l) := fun z => ext_cell wr z (cell_below HB.out (hq' 1 _ rfl))
      have j1 : (j : Int) < (l.length : Int) := by omega
      clear hq hq' he
      go_wp2_with fail
      refine wp_soft (SV (.bool true)) (by kernel_rfl) (by kernel_rfl) ?_
      repeat (first | (refine soft_step (fun K hK => ?_); go_simp; (try go_bits); refine hK _ ?_; clear hK K) | (refine soft_step (fun K hK => ?_); go_simp; refine ⟨_, _, ⟨rfl, rfl⟩, fun zz => (eqReading_any e.t e.l _).mono ?_, ?_⟩; (rintro e1 w1 ⟨he, hb⟩; exact ⟨_, he, rfl, hb⟩); rintro v rfl; refine hK _ ?_; clear hK K))
      refine soft_nil ?_
      rintro w5 hw5
      have HB5 := Lib.hid (below_next HB.out hw5.below)
      clear hw5
      go_wp2_with fail
      go_roundw
      case rel => exact ⟨j + 1, by omega, by go_num, HB5.out⟩
      case measure => simp [intOf]; omega
    · have j1 : ¬ (j : Int) < (l.length : Int) := by omega
      go_wp2_with fail
      go_ret
      exact ⟨rfl, HB.out⟩
/-- A list of wells of the laws that a slice shows. -/
def ALAt (w : World) (v : Value) (l : List Aq) : Prop :=
  ∃ a cap, v = .slice a l.length cap ∧ ∀ (j : Nat) (e : Aq), l[j]? = some e → e.Rng ∧ ∃ g o, a = some ⟨g, o, none⟩ ∧ w.rangeAt g (o + j * 2) e.cells
theorem ALAt.far {w w' : World} {v : Value} {l : List Aq} (h : ALAt w v l) (hb : Below w.heap.size w w') : ALAt w' v l := by
  obtain ⟨a, cap, e, hL⟩ := h
  refine ⟨a, cap, e, fun j x hx => ?_⟩
  obtain ⟨h1, g, o, h2, h3⟩ := hL j x hx
  exact ⟨h1, g, o, h2, range_below h3 hb⟩
theorem ALAt.rng {w : World} {v : Value} {l : List Aq} (h : ALAt w v l) : ∀ e ∈ l, e.Rng := by
  obtain ⟨a, cap, _, hL⟩ := h
  intro e he
  obtain ⟨j, hj⟩ := List.getElem?_of_mem he
  exact (hL j e hj).1
theorem infoAq : (Try.prog.info? 42).map (fun i => (i.zero, i.size, i.bytes)) = some (some (.agg #[.float .f32 0, .float .f32 0]), 2, 8) := by kernel_rfl

/-- A list of wells in a block of its own. -/
def ABlk (w : World) (B : Nat) (l : List Aq) : Prop :=
  ∃ cur : Array Value, Blk w B cur 42 ∧ cur.size = l.length * 2 ∧ ∀ (i : Nat) (e : Aq), l[i]? = some e → w.rangeAt B (i * 2) e.cells
theorem ABlk.at' {w : World} {B : Nat} {l : List Aq} (h : ABlk w B l) (hr : ∀ e ∈ l, e.Rng) : AAt w (.slice (some ⟨B, 0, none⟩) l.length l.length) l := by
  obtain ⟨cur, h1, h2, h3⟩ := h
  exact ⟨_, _, rfl, fun j e he => ⟨hr e (List.mem_of_getElem? he), B, rfl, h3 j e he⟩⟩
theorem ABlk.far {w w' : World} {B : Nat} {l : List Aq} (h : ABlk w B l) (hb : Below w.heap.size w w') : ABlk w' B l := by
  obtain ⟨cur, h1, h2, h3⟩ := h
  exact ⟨cur, h1.later hb, h2, fun i e he => range_below (h3 i e he) hb⟩
def EqARel (l : List Aq) (w : World) (v5 : Value) (wr : World) : Prop := ∃ j : Nat, j ≤ l.length ∧ v5 = .int .i64 j ∧ Below w.heap.size w wr
def CopyA (l : List Aq) (wm : World) (B : Nat) (v : Value) (wr : World) : Prop :=
  ∃ (j : Nat) (cur : Array Value), j ≤ l.length ∧ v = .int .i64 j ∧ Blk wr B cur 42 ∧ cur.size = l.length * 2 ∧ (∀ (i : Nat) (e : Aq), i < j → l[i]? = some e → wr.rangeAt B (i * 2) e.cells) ∧ wm.grownBy wr (some B)

set_option maxRecDepth 100000 in
set_option maxHeartbeats 1600000 in
theorem toAquiferS_any (v : Value) (l : List Aq) (w : World) (hlen : l.length ≤ 1048576) (hv : ALAt w v l) :
    Calls Try.prog 36 #[v] w fun e w' => ∃ B, e = .returned (.slice (some ⟨B, 0, none⟩) l.length l.length) ∧ w.heap.size ≤ B ∧ ABlk w' B l ∧ Below w.heap.size w w' := by
  obtain ⟨i0, hi, hz0, hz1, hz2⟩ := info_parts infoAq
  obtain ⟨aL, cap, rfl, hL⟩ := hv
  have HL := Lib.hid hL
  clear hL
  go_enter Try.func36, Try.ntmps36
  go_wp2_with (refine wpList_make_full _ rfl _ _ 65 rfl w.heap.size 42 i0 (.agg #[.float .f32 0, .float .f32 0]) 2 Try.underlying65 hi hz0 hz1 .i64 .i64 (l.length : Int) (l.length : Int) l.length rfl rfl rfl rfl (by rw [hz2]; omega) (by unfold maxLen; omega) (Nat.le_refl _) ?_)
  intro w1 hown hgr
  obtain ⟨B, hBe⟩ : ∃ B, w.heap.size = B := ⟨_, rfl⟩
  have hbel1 : Hid (Below w.heap.size w w1) := ⟨hgr.os, hgr.tape, hgr.output, hgr.size, fun k hk => hgr.block k hk (by simp)⟩
  have HK1 : Hid (∃ cur, Blk w1 B cur 42 ∧ cur.size = l.length * 2) := by
    obtain ⟨_, h2 | ⟨g, cap', cur, he, hb, hg, hn, hm, hs, _⟩⟩ := hown
    · cases h2.1
    · cases he
      rw [hBe] at hg
      exact ⟨cur, hg, hs⟩
  rw [hBe]
  have HBE := Lib.hid hBe
  clear hown hgr hBe
  go_wp2_with fail
  go_loopw [4] (fun v4 wr => CopyA l w1 B v4 wr) (fun v4 _ => l.length - (intOf v4).toNat)
  case atStart =>
    obtain ⟨cur, h1, h2⟩ := HK1.out
    exact ⟨0, cur, by omega, rfl, h1, h2, fun i e hi => absurd hi (by omega), grown_refl _ _⟩
  case round =>
    obtain ⟨j, cur, hj, rfl, hb, hsz, hall, hgr⟩ := hrel
    have HB := Lib.hid hb
    have HALL := Lib.hid hall
    have HGR := Lib.hid hgr
    clear hb hall hgr
    have hle1 : B < w1.heap.size := by obtain ⟨c, h1, _⟩ := HK1.out; exact h1.lt
    by_cases hlt : j < l.length
    · obtain ⟨e, he⟩ : ∃ e, l[j]? = some e := ⟨_, List.getElem?_eq_getElem hlt⟩
      obtain ⟨hrng, g, o, rfl, hq⟩ := HL.out j e he
      have hgB : g < B := by rw [← HBE.out]; exact block_lt_of_cell (hq 0 _ rfl)
      have HQ : Hid (wr.rangeAt g (o + j * 2) e.cells) := fun i u hu => cell_grown (cell_below hbel1.out (hq i u hu)) HGR.out (by omega)
      have HE := Lib.hid he
      have j1 : (j : Int) < (l.length : Int) := by omega
      clear hq he
      go_wp2_with (first | ((with_reducible refine wpList_gateL ?_); refine wpList_load_mid rfl _ _ rfl g (o + j * 2) rfl e.cells _ HQ.out Try.underlying34 rfl sizeAqL ?_) | (go_at_call 19; refine (toAquifer_any e.T e.S _).mono ?_; rintro e2 w2 ⟨rfl, hb2⟩; have HB2 := Lib.hid (HB.out.later hb2)) | ((with_reducible refine wpList_gateS ?_); refine wpList_store_mid rfl _ _ _ rfl B (j * 2) e.cells.toArray rfl rfl (blk_there HB2.out hsz (by show j * 2 + 2 ≤ _; omega)) sizeAq (by simp [Aq.cells, Value.oneCell']) ?_))
      obtain ⟨w3, hw3⟩ : ∃ w3, w2.setCells B (j * 2) e.cells.toArray.toList = w3 := ⟨_, rfl⟩
      have HS : Hid (∃ cur', Blk w3 B cur' 42 ∧ cur'.size = l.length * 2 ∧ (∀ (i : Nat) (e : Aq), i < j + 1 → l[i]? = some e → w3.rangeAt B (i * 2) e.cells) ∧ w1.grownBy w3 (some B)) := by
        rw [← hw3]
        obtain ⟨cur', h1, h2, _⟩ := setCells_blk e.cells.toArray.toList (j * 2) _ _ HB2.out
        refine ⟨cur', h1, by omega, fun i e' hi he' => ?_, grown_trans (grown_trans HGR.out (grown_below hb2)) (setCells_grown _ _ _)⟩
        by_cases e3 : i = j
        · subst e3
          rw [HE.out] at he'
          cases he'
          exact World.rangeAt_setCells_same _ _ _ _ (blk_there HB2.out hsz (by show i * 2 + 2 ≤ _; omega))
        · refine World.rangeAt_setCells_apart (range_below (HALL.out i e' (by omega) he') hb2) _ _ _ (.inr (.inl ?_))
          show i * 2 + 2 ≤ j * 2
          omega
      rw [hw3]
      clear hw3 hb2 HB2
      go_wp2_with fail
      go_roundw
      case rel =>
        obtain ⟨cur', h1, h2, h3, h4⟩ := HS.out
        exact ⟨j + 1, cur', by omega, by go_num, h1, h2, h3, h4⟩
      case measure => simp [intOf]; omega
    · have j1 : ¬ (j : Int) < (l.length : Int) := by omega
      go_wp2_with fail
      go_ret
      refine ⟨B, rfl, by rw [HBE.out]; exact Nat.le_refl _, ⟨cur, HB.out, hsz, fun i e he => HALL.out i e (by have := (List.getElem?_eq_some_iff.1 he).1; omega) he⟩, ?_⟩
      exact below_grown hbel1.out HGR.out hbel1.out.size (by rw [HBE.out]; exact Nat.le_refl _)

set_option maxHeartbeats 400000 in
theorem szAquiferS_any (v : Value) (l : List Aq) (w : World) (hlen : l.length < 9223372036854775808) (hv : ALAt w v l) :
    Calls Try.prog 34 #[v, .int .i64 1048576] w fun e w' => e = .returned (.int .i64 (if l.length ≤ 1048576 then 1048576 - (l.length : Int) else -1)) ∧ w = w' := by
  obtain ⟨aL, cap, rfl, hL⟩ := hv
  clear hL
  by_cases h : l.length ≤ 1048576
  · rw [if_pos h]
    have h1 : ¬ (1048576 : Int) - (l.length : Int) < 0 := by omega
    go_enter Try.func34, Try.ntmps34
    go_wp2_with fail
    go_ret
    exact ⟨rfl, rfl⟩
  · rw [if_neg h]
    have h1 : (1048576 : Int) - (l.length : Int) < 0 := by omega
    go_enter Try.func34, Try.ntmps34
    go_wp2_with fail
    go_ret
    exact ⟨rfl, rfl⟩

set_option maxRecDepth 100000 in
set_option maxHeartbeats 800000 in
theorem eqAquifer_any (T S T' S' : Nat) (w : World) (hT : fb T = fb T') (hS : fb S = fb S') :
    Calls Try.prog 33 #[.agg #[.float .f32 T, .float .f32 S], .agg #[.float .f32 T', .float .f32 S']] w (RetB true w) := by
  go_enter Try.func33, Try.ntmps33
  go_wp2_with (with_reducible refine wpList_box rfl ?_)
  intro A wA hA1 hA2 hA3 hA4
  go_wp2_with (with_reducible refine wpList_box rfl ?_)
  intro B wB hB1 hB2 hB3 hB4
  have a0 : wB.cell? ⟨A, 0, none⟩ = some (.float .f32 T) := (hA3.later hB4).at rfl
  have a1 : wB.cell? ⟨A, 1, none⟩ = some (.float .f32 S) := (hA3.later hB4).at rfl
  have b0 : wB.cell? ⟨B, 0, none⟩ = some (.float .f32 T') := hB3.at rfl
  have b1 : wB.cell? ⟨B, 1, none⟩ = some (.float .f32 S') := hB3.at rfl
  have HB := Lib.hid (below_next hA4 hB4)
  have GA := Lib.hid (hA3.later hB4)
  have GB := Lib.hid hB3
  have HT := Lib.hid hT
  have HS := Lib.hid hS
  clear hA3 hA4 hB3 hB4 hT hS
  go_wp2_with ((with_reducible refine wpList_wideG ?_ ?_ ?_ ?_ ?_); (exact rfl); (exact rfl); (exact Try.underlying30); (exact rfl); intro d n hd)
  rename_i d1 n1 hd1 _ _
  refine (sameFloat_any _ _ _ (by rw [hd1.out, hd.out]; exact congrArg wid HT.out)).mono ?_
  rintro e w5 ⟨rfl, hb5⟩
  have HB5 := Lib.hid (below_next (below_drawn HB.out _) hb5)
  have a1' : w5.cell? ⟨A, 1, none⟩ = some (.float .f32 S) := ((GA.out.drewN _).later hb5).at rfl
  have b1' : w5.cell? ⟨B, 1, none⟩ = some (.float .f32 S') := ((GB.out.drewN _).later hb5).at rfl
  clear hb5 a0 a1 b0 b1 hd hd1
  go_wp2_with ((with_reducible refine wpList_wideG ?_ ?_ ?_ ?_ ?_); (exact rfl); (exact rfl); (exact Try.underlying30); (exact rfl); intro d2 n2 hd2)
  rename_i d3 n3 hd3 _ _
  refine (sameFloat_any _ _ _ (by rw [hd3.out, hd2.out]; exact congrArg wid HS.out)).mono ?_
  rintro e w6 ⟨rfl, hb6⟩
  have HB6 := Lib.hid (below_next (below_drawn HB5.out _) hb6)
  clear hb6
  go_wp2_with fail
  go_ret
  exact ⟨rfl, HB6.out⟩

set_option maxRecDepth 100000 in
set_option maxHeartbeats 800000 in
theorem eqAquiferS_any (v v' : Value) (l : List Aq) (w : World) (hlen : l.length ≤ 1048576) (hv : AAt w v l) (hv' : AAt w v' l) :
    Calls Try.prog 38 #[v, v'] w (RetB true w) := by
  obtain ⟨aL, cap, rfl, hL⟩ := hv
  obtain ⟨aL', cap', rfl, hL'⟩ := hv'
  have HL := Lib.hid hL
  have HL' := Lib.hid hL'
  clear hL hL'
  go_enter Try.func38, Try.ntmps38
  go_wp2_with fail
  go_loopw [5] (fun v5 wr => EqARel l w v5 wr) (fun v5 _ => l.length - (intOf v5).toNat)
  case atStart => exact ⟨0, by omega, rfl, Below.refl _ _⟩
  case round =>
    obtain ⟨j, hj, rfl, hB⟩ := hrel
    have HB := Lib.hid hB
    clear hB
    by_cases hlt : j < l.length
    · obtain ⟨e, he⟩ : ∃ e, l[j]? = some e := ⟨_, List.getElem?_eq_getElem hlt⟩
      obtain ⟨_, g, rfl, hq⟩ := HL.out j e he
      obtain ⟨_, g', rfl, hq'⟩ := HL'.out j e he
      have c0 : ∀ z, (ext wr z).cell? ⟨g, j * 2, none⟩ = some (.float .f32 e.T) := fun z => ext_cell wr z (cell_below HB.out (hq 0 _ rfl))
      have c1 : ∀ z, (ext wr z).cell? ⟨g, j * 2 + 1, none⟩ = some (.float .f32 e.S) := fun z => ext_cell wr z (cell_below HB.out (hq 1 _ rfl))
      have d0 : ∀ z, (ext wr z).cell? ⟨g', j * 2, none⟩ = some (.float .f32 e.T) := fun z => ext_cell wr z (cell_below HB.out (hq' 0 _ rfl))
      have d1 : ∀ z, (ext wr z).cell? ⟨g', j * 2 + 1, none⟩ = some (.float .f32 e.S) := fun z => ext_cell wr z (cell_below HB.out (hq' 1 _ rfl))
      have j1 : (j : Int) < (l.length : Int) := by omega
      clear hq hq' he
      go_wp2_with fail
      refine wp_soft (SV (.bool true)) (by kernel_rfl) (by kernel_rfl) ?_
      repeat (first | (refine soft_step (fun K hK => ?_); go_simp; (try go_bits); refine hK _ ?_; clear hK K) | (refine soft_step (fun K hK => ?_); go_simp; refine ⟨_, _, ⟨rfl, rfl⟩, fun zz => (eqAquifer_any e.T e.S e.T e.S _ rfl rfl).mono ?_, ?_⟩; (rintro e1 w1 ⟨he, hb⟩; exact ⟨_, he, rfl, hb⟩); rintro v rfl; refine hK _ ?_; clear hK K))
      refine soft_nil ?_
      rintro w5 hw5
      have HB5 := Lib.hid (below_next HB.out hw5.below)
      clear hw5
      go_wp2_with fail
      go_roundw
      case rel => exact ⟨j + 1, by omega, by go_num, HB5.out⟩
      case measure => simp [intOf]; omega
    · have j1 : ¬ (j : Int) < (l.length : Int) := by omega
      go_wp2_with fail
      go_ret
      exact ⟨rfl, HB.out⟩
end Go.Proofs.Ytonmdkhfongmhaa

namespace Go.Proofs.Ytonmdkhfongmhaa
open Go.RowKit

theorem owns_belowN {w w' : World} {base s : Nat} {T : TypeId} {v : Value} {n : Nat} {xs : List Value} (h : w.ownsRow base T s v n xs) (hB : Below w.heap.size w w') : w'.ownsRow base T s v n xs := by
  obtain ⟨h1, h2⟩ := h
  refine ⟨h1, h2.imp id fun ⟨g, cap, cur, e, hb, hg, rest⟩ => ⟨g, cap, cur, e, hb, ?_, rest⟩⟩
  exact (hB.block g (Array.getElem?_eq_some_iff.1 hg).1).trans hg
theorem owns_farN {w w' : World} {base r s : Nat} {T : TypeId} {v : Value} {n : Nat} {xs : List Value} (h : w.ownsRow base T s v n xs) (hg : w.grownBy w' (some r)) (hne : ∀ q, v.ownBlock = some q → q ≠ r) : w'.ownsRow base T s v n xs := by
  obtain ⟨h1, h2⟩ := h
  refine ⟨h1, h2.imp id fun ⟨g, cap, cur, e, hb, hc, rest⟩ => ⟨g, cap, cur, e, hb, ?_, rest⟩⟩
  subst e
  have := hne g rfl
  exact (hg.block g (Array.getElem?_eq_some_iff.1 hc).1 (by simpa using this)).trans hc
theorem owns_monoN {w : World} {base base' s : Nat} {T : TypeId} {v : Value} {n : Nat} {xs : List Value} (h : w.ownsRow base' T s v n xs) (hb : base ≤ base') : w.ownsRow base T s v n xs := by
  obtain ⟨h1, h2⟩ := h
  exact ⟨h1, h2.imp id fun ⟨g, cap, cur, e, hg, rest⟩ => ⟨g, cap, cur, e, Nat.le_trans hb hg, rest⟩⟩
theorem cells_new (w : World) (cs : Array Value) (t : TypeId) : ∀ j u, cs.toList[j]? = some u → (w.alloc (.cells cs t)).cell? ((⟨w.heap.size, 0, none⟩ : Addr).add j) = some u := by
  intro j u hj
  have := (Blk.new' w cs t rfl).at (i := j) (v := u) (by simpa using hj)
  by_cases h0 : j = 0
  · subst h0; simpa [Addr.add] using this
  · simpa [Addr.add, h0] using this
theorem rng_new {w : World} {g : Nat} {cs : List Value} (h : w.rangeAt g 0 cs) (o : Obj) : ∀ j u, cs[j]? = some u → (w.alloc o).cell? ((⟨g, 0, none⟩ : Addr).add j) = some u := by
  intro j u hu
  have h := cell_below ((Below.refl w.heap.size w).alloc (Nat.le_refl _) o) (h j u hu)
  by_cases h0 : j = 0
  · subst h0; simpa [Addr.add] using h
  · simpa [Addr.add, h0] using h
theorem below_drew {B : Nat} {a w : World} (h : Below B a w) : Below B a w.drew := ⟨h.os, h.tape, h.output, h.size, h.block⟩
end Go.Proofs.Ytonmdkhfongmhaa

namespace Go.Proofs.Ytonmdkhfongmhaa
open Go.RowKit

/-- The level of a reading. -/
def levF (l : Int) : F := fdiv (ofI l) (some 1098907648)

set_option maxRecDepth 100000 in
set_option maxHeartbeats 800000 in
theorem LevelOf_any (t l : Int) (w : World) : Calls Try.prog 54 #[.agg #[.int .i64 t, .int .i16 l]] w (RetF (levF l) w) := by
  go_enter Try.func54, Try.ntmps54
  go_wp2_with (with_reducible refine wpList_box rfl ?_)
  intro A wA hA1 hA2 hA3 hA4
  have c1 : wA.cell? ⟨A, 1, none⟩ = some (.int .i16 l) := hA3.at rfl
  have HB := Lib.hid hA4
  clear hA3 hA4
  go_wp2_with (first | ((with_reducible refine wpList_gate ?_); refine wpList_arith _ _ rfl rfl rfl ?_; intro r n hr))
  go_ret
  exact ⟨_, rfl, hr.op (Is.ofI _) rfl, below_drawn HB.out _⟩

set_option maxRecDepth 100000 in
set_option maxHeartbeats 800000 in
theorem l04Level_any (t l : Int) (w : World) : Calls Try.prog 49 #[.agg #[.int .i64 t, .int .i16 l]] w (RetF (levF l) w) := by
  go_enter Try.func49, Try.ntmps49
  go_wp2_with (with_reducible refine wpList_box rfl ?_)
  intro A wA hA1 hA2 hA3 hA4
  have c1 : wA.cell? ⟨A, 1, none⟩ = some (.int .i16 l) := hA3.at rfl
  have HB := Lib.hid hA4
  clear hA3 hA4
  go_wp2_with (first | ((with_reducible refine wpList_gate ?_); refine wpList_arith _ _ rfl rfl rfl ?_; intro r n hr))
  go_ret
  exact ⟨_, rfl, hr.op (Is.ofI _) rfl, below_drawn HB.out _⟩

/-- A site. -/
structure Si where
  x : Int
  y : Int
  r : Nat
  px : Int
  py : Int
def Si.cells (s : Si) : Array Value := #[.int .i8 s.x, .int .i8 s.y, .float .f32 s.r, .int .i8 s.px, .int .i8 s.py]
structure Si.Rng (s : Si) : Prop where
  x : -128 ≤ s.x ∧ s.x ≤ 127
  y : -128 ≤ s.y ∧ s.y ≤ 127
  px : -128 ≤ s.px ∧ s.px ≤ 127
  py : -128 ≤ s.py ∧ s.py ≤ 127
def Si.ok (s : Si) : Bool := wellB s.x s.y (fb s.r) && placeB s.px && placeB s.py
theorem site_row {w : World} {b : Nat} {s : Si} {t : TypeId} (h : Blk w b s.cells t) : RowAt w b 0 #[.int .i8 s.x, .int .i8 s.y, .float .f32 s.r] :=
  fun i v hv => by
    rw [Nat.zero_add]
    match i, hv with
    | 0, hv => exact h.at hv
    | 1, hv => exact h.at hv
    | 2, hv => exact h.at hv
    | i + 3, hv => simp at hv

/-! Times. -/
def okAt (f : Nat → Int) (i : Nat) : Bool := decide ((if i = 0 then 0 else f (i - 1)) + 1 ≤ f i) && decide (f i ≤ 100000)
def okN (f : Nat → Int) (n : Nat) : Bool := (List.range n).all (okAt f)
theorem okN_succ {f : Nat → Int} {n : Nat} (h : okN f n = true) (h2 : okAt f n = true) : okN f (n + 1) = true := by
  unfold okN at *
  rw [List.range_succ, List.all_append, h]
  simp [h2]
theorem okN_false {f : Nat → Int} {n i : Nat} (hi : i < n) (h : okAt f i = false) : okN f n = false := by
  unfold okN
  rw [List.all_eq_false]
  exact ⟨i, List.mem_range.2 hi, by rw [h]; decide⟩
theorem okN_at {f : Nat → Int} {n i : Nat} (h : okN f n = true) (hi : i < n) : okAt f i = true := List.all_eq_true.1 h i (List.mem_range.2 hi)
/-- The time before. -/
def lastT (f : Nat → Int) (i : Nat) : Int := if i = 0 then 0 else f (i - 1)
theorem okAt_iff {f : Nat → Int} {i : Nat} : okAt f i = (decide (lastT f i + 1 ≤ f i) && decide (f i ≤ 100000)) := rfl
theorem okN_pos {f : Nat → Int} : ∀ {n i : Nat}, okN f n = true → i < n → 1 ≤ f i ∧ f i ≤ 100000
  | n, 0, h, hi => by
    have := okN_at h hi
    unfold okAt at this
    simp at this
    omega
  | n, i + 1, h, hi => by
    have := okN_at h hi
    obtain ⟨h1, h2⟩ := okN_pos (i := i) h (by omega)
    unfold okAt at this
    simp at this
    omega
def timeF (l : List Rd) (i : Nat) : Int := (l.getD i ⟨0, 0⟩).t
def okR (l : List Rd) : Bool := decide (l.length ≤ 40) && okN (timeF l) l.length
theorem timeF_at {l : List Rd} {j : Nat} {e : Rd} (h : l[j]? = some e) : timeF l j = e.t := by unfold timeF; simp [List.getD, h]
/-- A list of times that a slice shows. -/
def TsAt (w : World) (v : Value) (f : Nat → Int) (n : Nat) : Prop :=
  ∃ a cap, v = .slice a n cap ∧ ∀ j, j < n → ∃ g o, a = some ⟨g, o, none⟩ ∧ w.cell? ⟨g, o + j, none⟩ = some (.int .i64 (f j))
def TokRel (f : Nat → Int) (n : Nat) (w : World) (v7 : Value) (wr : World) : Prop := ∃ j : Nat, j ≤ n ∧ v7 = .int .i64 j ∧ okN f j = true ∧ w = wr

set_option maxRecDepth 100000 in
set_option maxHeartbeats 1600000 in
theorem timesOk_any (v : Value) (f : Nat → Int) (n : Nat) (w : World) (hn : n ≤ 1048576) (hv : TsAt w v f n) :
    Calls Try.prog 75 #[v] w fun e w' => e = .returned (.bool (decide (n ≤ 40) && okN f n)) ∧ w = w' := by
  obtain ⟨a, cap, rfl, hL⟩ := hv
  have HL := Lib.hid hL
  clear hL
  go_enter Try.func75, Try.ntmps75
  go_wp2_with fail
  go_loopw [7] (fun v7 wr => TokRel f n w v7 wr) (fun v7 _ => n - (intOf v7).toNat)
  case atStart => exact ⟨0, by omega, rfl, rfl, rfl⟩
  case round =>
    obtain ⟨j, hj, rfl, hok, rfl⟩ := hrel
    have HOK := Lib.hid hok
    clear hok
    by_cases hlt : j < n
    · obtain ⟨g, o, rfl, hq⟩ := HL.out j hlt
      have j1 : (j : Int) < (n : Int) := by omega
      cases hm : momB (f j)
      · have HM := Lib.hid hm
        have HF : Hid (okN f n = false) := by
          show okN f n = false
          refine okN_false hlt ?_
          unfold momB at hm
          have hp : j = 0 ∨ 1 ≤ f (j - 1) := by
            by_cases h0 : j = 0
            · exact .inl h0
            · exact .inr (okN_pos HOK.out (i := j - 1) (by omega)).1
          unfold okAt
          by_cases h0 : j = 0
          · rw [if_pos h0]; simpa using hm
          · rw [if_neg h0]
            have h1 := hp.resolve_left h0
            simp only [Bool.and_eq_false_iff, decide_eq_false_iff_not] at hm ⊢
            omega
        clear hm
        go_wp2_with (go_at_call 104; refine (isMoment_any (f j) _).mono ?_; rw [HM.out]; rintro e w' ⟨rfl, rfl⟩)
        go_ret
        exact ⟨ret_bool (by rw [HF.out]; simp), rfl⟩
      · have HM := Lib.hid hm
        clear hm
        by_cases h0 : j = 0
        · subst h0
          have hq0 : w.cell? ⟨g, o, none⟩ = some (.int .i64 (f 0)) := by simpa using hq
          have j2 : (0 : Int) < (n : Int) := by omega
          have HF : Hid (okAt f 0 = true) := by
            have := HM.out
            show okAt f 0 = true
            unfold momB at this
            unfold okAt
            simpa using this
          go_wp2_with (go_at_call 104; refine (isMoment_any (f 0) _).mono ?_; rw [HM.out]; rintro e w' ⟨rfl, rfl⟩)
          go_roundw
          case rel => exact ⟨1, by omega, by go_num, okN_succ HOK.out HF.out, rfl⟩
          case measure => simp [intOf]; omega
        · have hj0 : (0 : Int) < (j : Int) := by omega
          obtain ⟨g2, o2, e2, hq2⟩ := HL.out (j - 1) (by omega)
          cases e2
          have hq3 : w.cell? ⟨g, o + j - 1, none⟩ = some (.int .i64 (f (j - 1))) := by rw [show o + j - 1 = o + (j - 1) by omega]; exact hq2
          have ej : ((j : Int) - 1).toNat = j - 1 := by omega
          by_cases hlt2 : f (j - 1) < f j
          · have k1 : ¬ f j ≤ f (j - 1) := by omega
            have HF : Hid (okAt f j = true) := by
              have := HM.out
              show okAt f j = true
              unfold momB at this
              unfold okAt
              rw [if_neg h0]
              simp only [Bool.and_eq_true, decide_eq_true_eq] at this ⊢
              omega
            go_wp2_with (go_at_call 104; refine (isMoment_any (f j) _).mono ?_; rw [HM.out]; rintro e w' ⟨rfl, rfl⟩)
            go_roundw
            case rel => exact ⟨j + 1, by omega, by go_num, okN_succ HOK.out HF.out, rfl⟩
            case measure => simp [intOf]; omega
          · have k1 : f j ≤ f (j - 1) := by omega
            have HF : Hid (okN f n = false) := by
              show okN f n = false
              refine okN_false hlt ?_
              unfold okAt
              rw [if_neg h0]
              simp only [Bool.and_eq_false_iff, decide_eq_false_iff_not]
              omega
            go_wp2_with (go_at_call 104; refine (isMoment_any (f j) _).mono ?_; rw [HM.out]; rintro e w' ⟨rfl, rfl⟩)
            go_ret
            exact ⟨ret_bool (by rw [HF.out]; simp), rfl⟩
    · have j1 : ¬ (j : Int) < (n : Int) := by omega
      have e : j = n := by omega
      subst e
      go_wp2_with fail
      go_ret
      refine ⟨ret_bool ?_, rfl⟩
      rw [HOK.out]
      simp only [Bool.and_true, decide_eq_decide]
      omega
end Go.Proofs.Ytonmdkhfongmhaa

namespace Go.Proofs.Ytonmdkhfongmhaa
open Go.RowKit

def tints (l : List Int) : List Value := l.map fun z : Int => .int .i64 z
theorem tints_snoc (l : List Int) (z : Int) : tints (l ++ [z]) = tints l ++ [.int .i64 z] := by simp [tints]
theorem infoT64 : (Try.prog.info? 2).map (fun i => (i.zero, i.size, i.bytes)) = some (some (.int .i64 0), 1, 8) := by kernel_rfl
theorem tsat_owned {w : World} {base : Nat} {v : Value} {l : List Int} (h : w.ownsRow base 2 1 v l.length (tints l)) : TsAt w v (fun i => l.getD i 0) l.length := by
  have h' := h
  obtain ⟨h1, h2 | ⟨g, cap, cur, rfl, hb, hg, hn, _⟩⟩ := h
  · obtain ⟨rfl, h0⟩ := h2
    exact ⟨none, 0, by rw [h0], fun j hj => by omega⟩
  · refine ⟨_, cap, rfl, fun j hj => ⟨g, 0, rfl, ?_⟩⟩
    have := World.ownsRow.cellAt (w := w) (base := base) (e := 2) (size := 1) (g := g) (n := l.length) (cap := cap) (xs := tints l) h' j (by omega)
    rw [Nat.zero_add, this]
    simp [tints, List.getD, hj]
def VrRel (l : List Rd) (w : World) (v3 v9 : Value) (wr : World) : Prop :=
  ∃ j : Nat, j ≤ l.length ∧ v9 = .int .i64 j ∧ wr.ownsRow w.heap.size 2 1 v3 j (tints ((l.take j).map Rd.t)) ∧ Below w.heap.size w wr

set_option maxRecDepth 100000 in
set_option maxHeartbeats 1600000 in
theorem ValidReadings_any (v : Value) (l : List Rd) (w : World) (hlen : l.length ≤ 1048576) (hv : RAt w v l) :
    Calls Try.prog 52 #[v] w (RetB (okR l) w) := by
  obtain ⟨i0, hi, hz0, hz1, hz2⟩ := info_parts infoT64
  obtain ⟨aL, cap, rfl, hL⟩ := hv
  have HL := Lib.hid hL
  clear hL
  go_enter Try.func52, Try.ntmps52
  go_wp2_with fail
  go_loopw [3, 9] (fun v3 v9 wr => VrRel l w v3 v9 wr) (fun _ v9 _ => l.length - (intOf v9).toNat)
  case atStart => exact ⟨0, by omega, rfl, World.ownsRow_lit w #[] 0 (Nat.le_refl _) (by simp [maxLen]) rfl, (Below.refl _ _).alloc (Nat.le_refl _) _⟩
  case round =>
    obtain ⟨j, hj, rfl, hown, hB⟩ := hrel
    have HO := Lib.hid hown
    have HB := Lib.hid hB
    clear hown hB
    by_cases hlt : j < l.length
    · obtain ⟨e, he⟩ : ∃ e, l[j]? = some e := ⟨_, List.getElem?_eq_getElem hlt⟩
      obtain ⟨hrng, g, rfl, hq⟩ := HL.out j e he
      have HE := Lib.hid he
      have HQ : Hid (wr.rangeAt g (j * 2) e.cells) := range_below hq HB.out
      have j1 : (j : Int) < (l.length : Int) := by omega
      have hbs := HB.out.size
      clear hq he
      go_wp2_with (first | ((with_reducible refine wpList_gateL ?_); refine wpList_load_mid rfl _ _ rfl g (j * 2) rfl e.cells _ HQ.out Try.underlying81 rfl sizeRd ?_) | (with_reducible refine wpList_new newR ?_))
      intro A w3 hA1 hA2 hA3 hA4
      have HO3 := Lib.hid (owns_belowN HO.out hA4)
      have hOl : ∀ q, Value.ownBlock _ = some q → q < wr.heap.size := fun q hq => (HO.out.lt q hq).2
      have HB3 := Lib.hid (below_next HB.out hA4)
      clear hA4
      go_wp2_with ((with_reducible refine wpList_gateS ?_); refine wpList_put (cells := #[.int .i64 e.t, .int .i16 e.l]) hA3 sizeRd rfl (by simp [Value.oneCell']) rfl rfl ?_)
      intro w4 s4 b4 k4
      have HO4 := Lib.hid (owns_farN HO3.out k4 (fun q hq => by have := hOl q hq; omega))
      have HB4 := Lib.hid (below_grown HB3.out k4 HB3.out.size (by omega))
      have c0 : w4.cell? ⟨A, 0, none⟩ = some (.int .i64 e.t) := b4.at rfl
      have hbs4 := HB4.out.size
      clear hA3 s4 b4 k4
      go_wp2_with (at_builtin; refine wpList_append_own _ rfl _ _ 50 rfl w.heap.size 2 i0 (.int .i64 0) 1 8 Try.underlying50 hi hz0 hz1 hz2 rfl (by decide) _ _ _ rfl (HO4.out.alloc _) ⟨w4.heap.size, 0, none⟩ 1 1 [.int .i64 e.t] rfl rfl (cell_one_new _ _ _) (by simp [Value.oneCell']) (by unfold maxLen; omega) (by omega) (by simp; omega) ?_)
      intro v' w7 hown7 hgrow _
      have HO7 := Lib.hid hown7
      have HB7 : Hid (Below w.heap.size w w7) := (HB4.out.alloc (by omega) _).grown hgrow (by simp; omega) (fun q hq => (HO4.out.lt q hq).1)
      clear hown7 hgrow c0
      go_wp2_with fail
      go_roundw
      case rel =>
        refine ⟨j + 1, by omega, by go_num, ?_, HB7.out⟩
        rw [take_more' HE.out, List.map_append]
        show w7.ownsRow _ _ 1 v' (j + 1) (tints (_ ++ [e.t]))
        rw [tints_snoc, List.map_take]; exact HO7.out
      case measure => simp [intOf]; omega
    · have j1 : ¬ (j : Int) < (l.length : Int) := by omega
      have ej : j = l.length := by omega
      have HT : Hid (∀ v3, wr.ownsRow w.heap.size 2 1 v3 j (tints ((l.take j).map Rd.t)) → TsAt wr v3 (timeF l) l.length) := by
        intro v3 h1
        rw [List.take_of_length_le (by omega), ej] at h1
        have hl : (l.map Rd.t).length = l.length := by simp
        rw [← hl] at h1
        have h2 := tsat_owned h1
        rw [hl] at h2
        obtain ⟨a, c, e1, h3⟩ := h2
        refine ⟨a, c, e1, fun i hi => ?_⟩
        obtain ⟨g, o, e2, h4⟩ := h3 i hi
        refine ⟨g, o, e2, ?_⟩
        rw [h4]
        simp [timeF, List.getD, hi]
      go_wp2_with fail
      refine (timesOk_any _ (timeF l) l.length wr (by omega) (HT.out _ HO.out)).mono ?_
      rintro e w' ⟨rfl, rfl⟩
      go_wp2_with fail
      go_ret
      exact ⟨rfl, HB.out⟩

def LkRel (l : List Rd) (w : World) (v3 v4 : Value) (wr : World) : Prop :=
  ∃ j : Nat, j ≤ l.length ∧ v4 = .int .i64 j ∧ v3 = .int .i64 (lastT (timeF l) j) ∧ okN (timeF l) j = true ∧ w = wr

set_option maxRecDepth 100000 in
set_option maxHeartbeats 1600000 in
theorem l04Ok_any (v : Value) (l : List Rd) (w : World) (hlen : l.length ≤ 1048576) (hv : RAt w v l) :
    Calls Try.prog 47 #[v] w (RetB (okR l) w) := by
  obtain ⟨aL, cap, rfl, hL⟩ := hv
  have HL := Lib.hid hL
  clear hL
  by_cases h40 : l.length ≤ 40
  · have k1 : ¬ (40 : Int) < (l.length : Int) := by omega
    have HR : Hid (okR l = okN (timeF l) l.length) := by show _ = _; unfold okR; rw [decide_eq_true h40]; rfl
    go_enter Try.func47, Try.ntmps47
    go_wp2_with fail
    go_loopw [3, 4] (fun v3 v4 wr => LkRel l w v3 v4 wr) (fun _ v4 _ => l.length - (intOf v4).toNat)
    case atStart => exact ⟨0, by omega, rfl, rfl, rfl, rfl⟩
    case round =>
      obtain ⟨j, hj, rfl, rfl, hok, rfl⟩ := hrel
      have HOK := Lib.hid hok
      clear hok
      by_cases hlt : j < l.length
      · obtain ⟨e, he⟩ : ∃ e, l[j]? = some e := ⟨_, List.getElem?_eq_getElem hlt⟩
        obtain ⟨hrng, g, rfl, hq⟩ := HL.out j e he
        have c0 : w.cell? ⟨g, j * 2, none⟩ = some (.int .i64 e.t) := hq 0 _ rfl
        have HT := Lib.hid (timeF_at he)
        have j1 : (j : Int) < (l.length : Int) := by omega
        obtain ⟨la, hla⟩ : ∃ la, lastT (timeF l) j = la := ⟨_, rfl⟩
        have hla2 : -9223372036854775808 ≤ la + 1 ∧ la + 1 ≤ 9223372036854775807 := by
          rw [← hla]
          unfold lastT
          by_cases h0 : j = 0
          · rw [if_pos h0]; omega
          · rw [if_neg h0]
            have := okN_pos HOK.out (i := j - 1) (by omega)
            omega
        obtain ⟨la1, la2⟩ := hla2
        have HLA := Lib.hid hla
        rw [hla]
        cases hz : (decide (la + 1 ≤ e.t) && decide (e.t ≤ 100000))
        · have HZ := Lib.hid hz
          have HF : Hid (okN (timeF l) l.length = false) := okN_false hlt (by rw [okAt_iff, HLA.out, HT.out]; exact hz)
          clear hz hq he hla
          go_wp2_with (go_at_call 70; refine (l00In_any _ _ _ _).mono ?_; rw [HZ.out]; rintro e w' ⟨rfl, rfl⟩)
          go_ret
          exact ⟨ret_bool (by rw [HR.out, HF.out]), Below.refl _ _⟩
        · have HZ := Lib.hid hz
          have HF : Hid (okAt (timeF l) j = true) := by show _ = _; rw [okAt_iff, HLA.out, HT.out]; exact hz
          clear hz hq he hla
          go_wp2_with (go_at_call 70; refine (l00In_any _ _ _ _).mono ?_; rw [HZ.out]; rintro e w' ⟨rfl, rfl⟩)
          go_roundw
          case rel => exact ⟨j + 1, by omega, by go_num, by show Value.int .i64 _ = Value.int .i64 (if j + 1 = 0 then 0 else timeF l (j + 1 - 1)); rw [if_neg (by omega), show j + 1 - 1 = j by omega, HT.out], okN_succ HOK.out HF.out, rfl⟩
          case measure => simp [intOf]; omega
      · have j1 : ¬ (j : Int) < (l.length : Int) := by omega
        have ej : j = l.length := by omega
        have HF : Hid (okR l = true) := by show _ = _; rw [HR.out, ← ej]; exact HOK.out
        go_wp2_with fail
        go_ret
        exact ⟨ret_bool (by rw [HF.out]), Below.refl _ _⟩
  · have k1 : (40 : Int) < (l.length : Int) := by omega
    have HR : Hid (okR l = false) := by show _ = _; unfold okR; rw [decide_eq_false h40]; rfl
    go_enter Try.func47, Try.ntmps47
    go_wp2_with fail
    go_ret
    exact ⟨ret_bool (by rw [HR.out]), Below.refl _ _⟩
end Go.Proofs.Ytonmdkhfongmhaa

namespace Go.Proofs.Ytonmdkhfongmhaa
open Go.RowKit


set_option maxRecDepth 100000 in
set_option maxHeartbeats 1600000 in
theorem ValidSite_any (s : Si) (hs : s.Rng) (w : World) : Calls Try.prog 74 #[.agg s.cells] w (RetB s.ok w) := by
  obtain ⟨⟨x0, x1⟩, ⟨y0, y1⟩, ⟨px0, px1⟩, ⟨py0, py1⟩⟩ := hs
  cases h1 : wellB s.x s.y (fb s.r)
  · have H1 := Lib.hid h1
    have HR : Hid (s.ok = false) := by show _ = _; unfold Si.ok; rw [h1]; rfl
    clear h1
    go_enter Try.func74, Try.ntmps74
    go_wp2_with (with_reducible refine wpList_box rfl ?_)
    intro A wA hA1 hA2 hA3 hA4
    have HB := Lib.hid hA4
    clear hA4
    go_wp2_with ((with_reducible refine wpList_getAt (T := 44) (b := A) (o := 0) (cs := #[.int .i8 s.x, .int .i8 s.y, .float .f32 s.r]) Try.underlying44 ?_ ?_ ?_ ?_ ?_); rfl; exact sizeWell; exact site_row hA3; rfl)
    refine (ValidWell_any s.x s.y s.r wA (by omega) (by omega)).mono ?_
    rw [H1.out]
    rintro e w2 ⟨rfl, hb2⟩
    have HB2 := Lib.hid (below_next HB.out hb2)
    clear hb2 hA3
    go_wp2_with fail
    go_ret
    exact ⟨ret_bool (by rw [HR.out]), HB2.out⟩
  · have H1 := Lib.hid h1
    cases h2 : placeB s.px
    · have H2 := Lib.hid h2
      have HR : Hid (s.ok = false) := by show _ = _; unfold Si.ok; rw [h1, h2]; rfl
      clear h1 h2
      go_enter Try.func74, Try.ntmps74
      go_wp2_with (with_reducible refine wpList_box rfl ?_)
      intro A wA hA1 hA2 hA3 hA4
      have HB := Lib.hid hA4
      go_wp2_with ((with_reducible refine wpList_getAt (T := 44) (b := A) (o := 0) (cs := #[.int .i8 s.x, .int .i8 s.y, .float .f32 s.r]) Try.underlying44 ?_ ?_ ?_ ?_ ?_); rfl; exact sizeWell; exact site_row hA3; rfl)
      refine (ValidWell_any s.x s.y s.r wA (by omega) (by omega)).mono ?_
      rw [H1.out]
      rintro e w2 ⟨rfl, hb2⟩
      have HB2 := Lib.hid (below_next HB.out hb2)
      have c3 : w2.cell? ⟨A, 3, none⟩ = some (.int .i8 s.px) := (hA3.later hb2).at rfl
      clear hb2 hA3 hA4
      go_wp2_with (go_at_call 103; refine (isPlace_any s.px _).mono ?_; rw [H2.out]; rintro e w' ⟨rfl, rfl⟩)
      go_ret
      exact ⟨ret_bool (by rw [HR.out]), HB2.out⟩
    · have H2 := Lib.hid h2
      have HR : Hid (s.ok = placeB s.py) := by show _ = _; unfold Si.ok; rw [h1, h2]; rfl
      clear h1 h2
      go_enter Try.func74, Try.ntmps74
      go_wp2_with (with_reducible refine wpList_box rfl ?_)
      intro A wA hA1 hA2 hA3 hA4
      have HB := Lib.hid hA4
      go_wp2_with ((with_reducible refine wpList_getAt (T := 44) (b := A) (o := 0) (cs := #[.int .i8 s.x, .int .i8 s.y, .float .f32 s.r]) Try.underlying44 ?_ ?_ ?_ ?_ ?_); rfl; exact sizeWell; exact site_row hA3; rfl)
      refine (ValidWell_any s.x s.y s.r wA (by omega) (by omega)).mono ?_
      rw [H1.out]
      rintro e w2 ⟨rfl, hb2⟩
      have HB2 := Lib.hid (below_next HB.out hb2)
      have c3 : w2.cell? ⟨A, 3, none⟩ = some (.int .i8 s.px) := (hA3.later hb2).at rfl
      have c4 : w2.cell? ⟨A, 4, none⟩ = some (.int .i8 s.py) := (hA3.later hb2).at rfl
      clear hb2 hA3 hA4
      go_wp2_with (first | (go_at_call 103; refine (isPlace_any s.px _).mono ?_; rw [H2.out]; rintro e w' ⟨rfl, rfl⟩) | (go_at_call 103; refine (isPlace_any s.py _).mono ?_; rintro e w' ⟨rfl, rfl⟩))
      go_ret
      exact ⟨ret_bool (by rw [HR.out]), HB2.out⟩

set_option maxRecDepth 100000 in
set_option maxHeartbeats 1600000 in
theorem l04Site_any (s : Si) (hs : s.Rng) (w : World) : Calls Try.prog 69 #[.agg s.cells] w (RetB s.ok w) := by
  obtain ⟨⟨x0, x1⟩, ⟨y0, y1⟩, ⟨px0, px1⟩, ⟨py0, py1⟩⟩ := hs
  cases h1 : wellB s.x s.y (fb s.r)
  · have H1 := Lib.hid h1
    have HR : Hid (s.ok = false) := by show _ = _; unfold Si.ok; rw [h1]; rfl
    clear h1
    go_enter Try.func69, Try.ntmps69
    go_wp2_with (with_reducible refine wpList_box rfl ?_)
    intro A wA hA1 hA2 hA3 hA4
    have HB := Lib.hid hA4
    clear hA4
    go_wp2_with ((with_reducible refine wpList_getAt (T := 44) (b := A) (o := 0) (cs := #[.int .i8 s.x, .int .i8 s.y, .float .f32 s.r]) Try.underlying44 ?_ ?_ ?_ ?_ ?_); rfl; exact sizeWell; exact site_row hA3; rfl)
    refine (l03Ok_any s.x s.y s.r wA (by omega) (by omega)).mono ?_
    rw [H1.out]
    rintro e w2 ⟨rfl, hb2⟩
    have HB2 := Lib.hid (below_next HB.out hb2)
    clear hb2 hA3
    go_wp2_with fail
    go_ret
    exact ⟨ret_bool (by rw [HR.out]), HB2.out⟩
  · have H1 := Lib.hid h1
    cases h2 : placeB s.px
    · have H2 := Lib.hid h2
      have HR : Hid (s.ok = false) := by show _ = _; unfold Si.ok; rw [h1, h2]; rfl
      clear h1 h2
      go_enter Try.func69, Try.ntmps69
      go_wp2_with (with_reducible refine wpList_box rfl ?_)
      intro A wA hA1 hA2 hA3 hA4
      have HB := Lib.hid hA4
      go_wp2_with ((with_reducible refine wpList_getAt (T := 44) (b := A) (o := 0) (cs := #[.int .i8 s.x, .int .i8 s.y, .float .f32 s.r]) Try.underlying44 ?_ ?_ ?_ ?_ ?_); rfl; exact sizeWell; exact site_row hA3; rfl)
      refine (l03Ok_any s.x s.y s.r wA (by omega) (by omega)).mono ?_
      rw [H1.out]
      rintro e w2 ⟨rfl, hb2⟩
      have HB2 := Lib.hid (below_next HB.out hb2)
      have c3 : w2.cell? ⟨A, 3, none⟩ = some (.int .i8 s.px) := (hA3.later hb2).at rfl
      clear hb2 hA3 hA4
      go_wp2_with (go_at_call 100; refine (l03Place_any s.px _).mono ?_; rw [H2.out]; rintro e w' ⟨rfl, rfl⟩)
      go_ret
      exact ⟨ret_bool (by rw [HR.out]), HB2.out⟩
    · have H2 := Lib.hid h2
      have HR : Hid (s.ok = placeB s.py) := by show _ = _; unfold Si.ok; rw [h1, h2]; rfl
      clear h1 h2
      go_enter Try.func69, Try.ntmps69
      go_wp2_with (with_reducible refine wpList_box rfl ?_)
      intro A wA hA1 hA2 hA3 hA4
      have HB := Lib.hid hA4
      go_wp2_with ((with_reducible refine wpList_getAt (T := 44) (b := A) (o := 0) (cs := #[.int .i8 s.x, .int .i8 s.y, .float .f32 s.r]) Try.underlying44 ?_ ?_ ?_ ?_ ?_); rfl; exact sizeWell; exact site_row hA3; rfl)
      refine (l03Ok_any s.x s.y s.r wA (by omega) (by omega)).mono ?_
      rw [H1.out]
      rintro e w2 ⟨rfl, hb2⟩
      have HB2 := Lib.hid (below_next HB.out hb2)
      have c3 : w2.cell? ⟨A, 3, none⟩ = some (.int .i8 s.px) := (hA3.later hb2).at rfl
      have c4 : w2.cell? ⟨A, 4, none⟩ = some (.int .i8 s.py) := (hA3.later hb2).at rfl
      clear hb2 hA3 hA4
      go_wp2_with (first | (go_at_call 100; refine (l03Place_any s.px _).mono ?_; rw [H2.out]; rintro e w' ⟨rfl, rfl⟩) | (go_at_call 100; refine (l03Place_any s.py _).mono ?_; rintro e w' ⟨rfl, rfl⟩))
      go_ret
      exact ⟨ret_bool (by rw [HR.out]), HB2.out⟩

/-- The drawdown at a site. -/
def downS (a : Aq) (s : Si) (t : Int) : F := downF (fb a.T) (fb a.S) (fb s.r) (s.px - s.x) (s.py - s.y) t
/-- What a drawdown at a site asks. -/
def SiOk (a : Aq) (s : Si) (t : Int) : Prop := DownOk a.T a.S s.x s.y s.px s.py t

set_option maxRecDepth 100000 in
set_option maxHeartbeats 1600000 in
theorem l04Drawdown_any (a : Aq) (s : Si) (t : Int) (w : World) (h : SiOk a s t) :
    Calls Try.prog 72 #[.agg #[.float .f32 a.T, .float .f32 a.S], .agg s.cells, .int .i64 t] w (RetF (downS a s t) w) := by
  have H := Lib.hid h
  obtain ⟨_, ⟨x0, x1⟩, ⟨y0, y1⟩, ⟨px0, px1⟩, ⟨py0, py1⟩, _⟩ := h
  go_enter Try.func72, Try.ntmps72
  go_wp2_with (with_reducible refine wpList_box rfl ?_)
  intro A wA hA1 hA2 hA3 hA4
  go_wp2_with (with_reducible refine wpList_box rfl ?_)
  intro B wB hB1 hB2 hB3 hB4
  have HA := Lib.hid (hA3.later hB4)
  have HB := Lib.hid (below_next hA4 hB4)
  have c3 : wB.cell? ⟨B, 3, none⟩ = some (.int .i8 s.px) := hB3.at rfl
  have c4 : wB.cell? ⟨B, 4, none⟩ = some (.int .i8 s.py) := hB3.at rfl
  clear hA3 hA4 hB4
  go_wp2_with (first | ((with_reducible refine wpList_get HA.out Try.underlying42 rfl (by kernel_rfl) ?_ ?_); rfl) | ((with_reducible refine wpList_getAt (T := 44) (b := B) (o := 0) (cs := #[.int .i8 s.x, .int .i8 s.y, .float .f32 s.r]) Try.underlying44 ?_ ?_ ?_ ?_ ?_); rfl; exact sizeWell; exact site_row hB3; rfl))
  refine (l03Drawdown_any a.T a.S s.r s.x s.y s.px s.py t wB H.out).mono ?_
  rintro e w2 ⟨q, rfl, hq, hb2⟩
  have HQ := Lib.hid hq
  have HB2 := Lib.hid (below_next HB.out hb2)
  clear hb2 hq hB3
  go_wp2_with fail
  go_ret
  exact ⟨q, rfl, HQ.out, HB2.out⟩
end Go.Proofs.Ytonmdkhfongmhaa

namespace Go.Proofs.Ytonmdkhfongmhaa
open Go.ChangeShapes Go.WideShapes Go.ChangeAt Go.RowKit

theorem exists_list {α : Type} {p : Nat → α → Prop} : ∀ n : Nat, (∀ i, i < n → ∃ e, p i e) → ∃ l : List α, l.length = n ∧ ∀ i e, l[i]? = some e → p i e
  | 0, _ => ⟨[], rfl, fun i e h => by simp at h⟩
  | n + 1, h => by
    obtain ⟨l, hl, hp⟩ := exists_list n (fun i hi => h i (by omega))
    obtain ⟨e, he⟩ := h n (by omega)
    refine ⟨l ++ [e], by simp [hl], fun i x hx => ?_⟩
    by_cases hi : i < n
    · rw [List.getElem?_append_left (by omega)] at hx
      exact hp i x hx
    · rw [List.getElem?_append_right (by omega)] at hx
      have : i = n := by
        have := (List.getElem?_eq_some_iff.1 hx).1
        simp at this
        omega
      subst this
      rw [hl, Nat.sub_self] at hx
      cases hx
      exact he
theorem cells_two {W : World} {b : Nat} {x : Addr} {cs : List Value} (h : W.cells? b x 2 = some cs) : ∃ c0 c1, cs = [c0, c1] ∧ W.cell? x = some c0 ∧ W.cell? (x.add 1) = some c1 := by
  have e0 : x.add 0 = x := by simp [Addr.add]
  unfold World.cells? at h
  split at h
  · simp [List.range_succ, e0] at h
    cases h0 : W.cell? x with
    | none => simp [h0] at h
    | some c0 =>
      cases h1 : W.cell? (x.add 1) with
      | none => simp [h0, h1] at h
      | some c1 =>
        simp [h0, h1] at h
        exact ⟨c0, c1, h.symm, rfl, rfl⟩
  · cases h
theorem cells_one {W : World} {b : Nat} {x : Addr} {cs : List Value} (h : W.cells? b x 1 = some cs) : ∃ c0, cs = [c0] ∧ W.cell? x = some c0 := by
  have e0 : x.add 0 = x := by simp [Addr.add]
  unfold World.cells? at h
  split at h
  · simp [List.range_succ, e0] at h
    cases h0 : W.cell? x with
    | none => simp [h0] at h
    | some c0 =>
      simp [h0] at h
      exact ⟨c0, h.symm, rfl⟩
  · cases h
theorem cell_spot {W : World} {a : Addr} {v : Value} (h : W.cell? a = some v) : a = ⟨a.block, a.off, none⟩ := by
  unfold World.cell? at h
  split at h
  · split at h
    · cases h
    · rename_i hs
      cases a with
      | mk b o s =>
        cases s with
        | none => rfl
        | some s => simp at hs
  · cases h
theorem add_spot {a : Addr} (ha : a = ⟨a.block, a.off, none⟩) (k : Nat) : a.add k = ⟨a.block, a.off + k, none⟩ := by
  unfold Addr.add
  split
  · rename_i hk; subst hk; exact ha
  · rfl

section
variable {H : Type} {enc : TypeId × Value → H} {w : World} {base fuel : Nat} {spare : Nat → Bool} {held : Bool} {cs : List Value} {x : DataW H × List MemPlace}
theorem reading_cells (h : DataW.trod enc Try.prog w base spare held fuel 85 cs = some x) : ∃ t l : Int, cs = [.int .i64 t, .int .i16 l] ∧ (-9223372036854775808 ≤ t ∧ t ≤ 9223372036854775807) ∧ (-32768 ≤ l ∧ l ≤ 32767) := by
  obtain ⟨xs, n, rfl, rfl, hl, hx, hf⟩ := DataW.trod_struct Try.underlying85 h
  have hc : Try.prog.cellsOf 85 = 2 := by kernel_rfl
  have c64 : Try.prog.cellsOf 2 = 1 := by kernel_rfl
  have c16 : Try.prog.cellsOf 79 = 1 := by kernel_rfl
  rw [hc] at hl
  have hx2 : xs.length = 2 := hx
  have f0 : DataW.trod enc Try.prog w base spare held n 2 ((cs.drop 0).take (Try.prog.cellsOf 2)) = xs[0]? := hf 0 _ rfl
  have f1 : DataW.trod enc Try.prog w base spare held n 79 ((cs.drop 1).take (Try.prog.cellsOf 79)) = xs[1]? := hf 1 _ rfl
  rw [c64, List.getElem?_eq_getElem (by omega)] at f0
  rw [c16, List.getElem?_eq_getElem (by omega)] at f1
  obtain ⟨a, ea, _, qa⟩ := DataW.trod_int Try.underlying2 f0
  obtain ⟨b, eb, _, qb⟩ := DataW.trod_int Try.underlying79 f1
  obtain ⟨c0, c1, rfl⟩ : ∃ c0 c1, cs = [c0, c1] := len_two hl
  simp at ea eb
  subst ea; subst eb
  simp [Lit.wf, IntKind.min, IntKind.max, IntKind.signed, IntKind.bits] at qa qb
  exact ⟨a, b, rfl, by omega, by omega⟩
theorem len_five {α : Type} {l : List α} (h : l.length = 5) : ∃ a b c d e, l = [a, b, c, d, e] := by
  rcases l with _ | ⟨a, _ | ⟨b, _ | ⟨c, _ | ⟨d, _ | ⟨e, _ | ⟨f, r⟩⟩⟩⟩⟩⟩
  all_goals first | exact ⟨_, _, _, _, _, rfl⟩ | (simp at h)
theorem site_cells (h : DataW.trod enc Try.prog w base spare held fuel 39 cs = some x) : ∃ s : Si, cs = s.cells.toList ∧ s.Rng := by
  obtain ⟨xs, n, rfl, rfl, hl, hx, hf⟩ := DataW.trod_struct Try.underlying39 h
  have hc : Try.prog.cellsOf 39 = 5 := by kernel_rfl
  have cw : Try.prog.cellsOf 37 = 3 := by kernel_rfl
  have c8 : Try.prog.cellsOf 35 = 1 := by kernel_rfl
  rw [hc] at hl
  have hx3 : xs.length = 3 := hx
  have f0 : DataW.trod enc Try.prog w base spare held n 37 ((cs.drop 0).take (Try.prog.cellsOf 37)) = xs[0]? := hf 0 _ rfl
  have f1 : DataW.trod enc Try.prog w base spare held n 35 ((cs.drop 3).take (Try.prog.cellsOf 35)) = xs[1]? := hf 1 _ rfl
  have f2 : DataW.trod enc Try.prog w base spare held n 35 ((cs.drop 4).take (Try.prog.cellsOf 35)) = xs[2]? := hf 2 _ rfl
  rw [cw, List.getElem?_eq_getElem (by omega)] at f0
  rw [c8, List.getElem?_eq_getElem (by omega)] at f1 f2
  obtain ⟨X, Y, R, e0, hX, hY, _⟩ := well_cells f0
  obtain ⟨a, ea, _, qa⟩ := DataW.trod_int Try.underlying35 f1
  obtain ⟨b, eb, _, qb⟩ := DataW.trod_int Try.underlying35 f2
  obtain ⟨c0, c1, c2, c3, c4, rfl⟩ : ∃ c0 c1 c2 c3 c4, cs = [c0, c1, c2, c3, c4] := len_five hl
  simp at e0 ea eb
  obtain ⟨rfl, rfl, rfl⟩ := e0
  subst ea; subst eb
  simp [Lit.wf, IntKind.min, IntKind.max, IntKind.signed, IntKind.bits] at qa qb
  have ra : -128 ≤ a ∧ a ≤ 127 := by omega
  have rb : -128 ≤ b ∧ b ≤ 127 := by omega
  exact ⟨⟨X, Y, R, a, b⟩, rfl, ⟨hX, hY, ra, rb⟩⟩
end

section
variable {H : Type} {enc : TypeId × Value → H} {W : World} {r : Reach} {b0 base : Nat} {spare : Nat → Bool} {held : Bool} {v : Value} {d : DataW H} {ps : List MemPlace}
set_option maxRecDepth 100000 in
theorem open_site (hv : Value.okWide Try.prog W r b0 39 v) (h : DataW.Trod enc Try.prog W base spare held 39 v d ps) : ∃ s : Si, v = .agg s.cells ∧ s.Rng := by
  obtain ⟨cs, rfl, _⟩ := okWide_struct Try.underlying39 hv
  obtain ⟨fuel, hf⟩ := h
  obtain ⟨s, hg, hfit⟩ := site_cells hf
  refine ⟨s, ?_, hfit⟩
  have : cs.toList = s.cells.toList := by simpa [Value.cells] using hg
  rw [← Array.toArray_toList (xs := cs), this]

set_option maxRecDepth 100000 in
theorem open_readings (hv : Value.okWide Try.prog W r b0 22 v) (h : DataW.Trod enc Try.prog W base spare held 22 v d ps) : ∃ l : List Rd, RLAt W v l ∧ l.length < 9223372036854775808 := by
  obtain ⟨a0, len, cap, rfl⟩ := okWide_slice Try.underlying22 hv
  obtain ⟨fuel, hf⟩ := h
  have hc : Try.prog.cellsOf 85 = 2 := by kernel_rfl
  rcases DataW.trod_slice Try.underlying22 hf with ⟨hcs, _⟩ | ⟨a, len', cap', elems, rest, n, _, hcs, _, hb, hl, hm, hlen, hel, _⟩
  · have e : Value.slice a0 len cap = .slice none 0 0 := by simpa [Value.cells] using hcs
    cases e
    exact ⟨[], ⟨none, 0, rfl, fun j e he => by simp at he⟩, by simp⟩
  · have e : Value.slice a0 len cap = .slice (some a) len' cap' := by simpa [Value.cells] using hcs
    cases e
    have key : ∀ i, i < len → ∃ e : Rd, e.Rng ∧ W.cell? (a.add (i * 2)) = some (.int .i64 e.t) ∧ W.cell? ((a.add (i * 2)).add 1) = some (.int .i16 e.l) := by
      intro i hi
      have h1 := hel i hi
      rw [hc, List.getElem?_eq_getElem (by omega)] at h1
      obtain ⟨cs, h2, h3⟩ := Option.bind_eq_some_iff.1 h1
      obtain ⟨c0, c1, rfl, k0, k1⟩ := cells_two h2
      obtain ⟨t, l, h4, hX, hY⟩ := reading_cells h3
      simp only [List.cons.injEq, and_true] at h4
      obtain ⟨rfl, rfl⟩ := h4
      exact ⟨⟨t, l⟩, ⟨hX, hY⟩, k0, k1⟩
    obtain ⟨l, hll, hp⟩ := exists_list len key
    refine ⟨l, ⟨some a, cap, by rw [hll], fun j e he => ?_⟩, by unfold maxLen at hm; omega⟩
    obtain ⟨h1, h2, h3⟩ := hp j e he
    have hj : j < len := by have := (List.getElem?_eq_some_iff.1 he).1; omega
    obtain ⟨e0, _, q0, _⟩ := key 0 (by omega)
    have ha : a = ⟨a.block, a.off, none⟩ := cell_spot (by simpa [Addr.add] using q0)
    rw [add_spot ha] at h2 h3
    refine ⟨h1, a.block, a.off, by rw [← ha], fun i v hi => ?_⟩
    match i, hi with
    | 0, hi => cases hi; exact h2
    | 1, hi => cases hi; exact h3
    | i + 2, hi => simp [Rd.cells] at hi

set_option maxRecDepth 100000 in
theorem open_aquifers (hv : Value.okWide Try.prog W r b0 62 v) (h : DataW.Trod enc Try.prog W base spare held 62 v d ps) : ∃ l : List Aq, ALAt W v l ∧ l.length < 9223372036854775808 := by
  obtain ⟨a0, len, cap, rfl⟩ := okWide_slice Try.underlying62 hv
  obtain ⟨fuel, hf⟩ := h
  have hc : Try.prog.cellsOf 34 = 2 := by kernel_rfl
  rcases DataW.trod_slice Try.underlying62 hf with ⟨hcs, _⟩ | ⟨a, len', cap', elems, rest, n, _, hcs, _, hb, hl, hm, hlen, hel, _⟩
  · have e : Value.slice a0 len cap = .slice none 0 0 := by simpa [Value.cells] using hcs
    cases e
    exact ⟨[], ⟨none, 0, rfl, fun j e he => by simp at he⟩, by simp⟩
  · have e : Value.slice a0 len cap = .slice (some a) len' cap' := by simpa [Value.cells] using hcs
    cases e
    have key : ∀ i, i < len → ∃ e : Aq, e.Rng ∧ W.cell? (a.add (i * 2)) = some (.float .f32 e.T) ∧ W.cell? ((a.add (i * 2)).add 1) = some (.float .f32 e.S) := by
      intro i hi
      have h1 := hel i hi
      rw [hc, List.getElem?_eq_getElem (by omega)] at h1
      obtain ⟨cs, h2, h3⟩ := Option.bind_eq_some_iff.1 h1
      obtain ⟨c0, c1, rfl, k0, k1⟩ := cells_two h2
      obtain ⟨t, l, h4, hX, hY⟩ := aquifer_cells h3
      simp only [List.cons.injEq, and_true] at h4
      obtain ⟨rfl, rfl⟩ := h4
      exact ⟨⟨t, l⟩, ⟨hX, hY⟩, k0, k1⟩
    obtain ⟨l, hll, hp⟩ := exists_list len key
    refine ⟨l, ⟨some a, cap, by rw [hll], fun j e he => ?_⟩, by unfold maxLen at hm; omega⟩
    obtain ⟨h1, h2, h3⟩ := hp j e he
    have hj : j < len := by have := (List.getElem?_eq_some_iff.1 he).1; omega
    obtain ⟨e0, _, q0, _⟩ := key 0 (by omega)
    have ha : a = ⟨a.block, a.off, none⟩ := cell_spot (by simpa [Addr.add] using q0)
    rw [add_spot ha] at h2 h3
    refine ⟨h1, a.block, a.off, by rw [← ha], fun i v hi => ?_⟩
    match i, hi with
    | 0, hi => cases hi; exact h2
    | 1, hi => cases hi; exact h3
    | i + 2, hi => simp [Aq.cells] at hi

set_option maxRecDepth 100000 in
/-- A list of times, by a function: the slice may begin anywhere in its block. -/
theorem open_times (hv : Value.okWide Try.prog W r b0 50 v) (h : DataW.Trod enc Try.prog W base spare held 50 v d ps) : ∃ (l : List Int), TsAt W v (fun i => l.getD i 0) l.length ∧ l.length < 9223372036854775808 ∧ ∀ z ∈ l, -9223372036854775808 ≤ z ∧ z ≤ 9223372036854775807 := by
  obtain ⟨a0, len, cap, rfl⟩ := okWide_slice Try.underlying50 hv
  obtain ⟨fuel, hf⟩ := h
  have hc : Try.prog.cellsOf 2 = 1 := by kernel_rfl
  rcases DataW.trod_slice Try.underlying50 hf with ⟨hcs, _⟩ | ⟨a, len', cap', elems, rest, n, _, hcs, _, hb, hl, hm, hlen, hel, _⟩
  · have e : Value.slice a0 len cap = .slice none 0 0 := by simpa [Value.cells] using hcs
    cases e
    exact ⟨[], ⟨none, 0, rfl, fun j hj => by simp at hj⟩, by simp, by simp⟩
  · have e : Value.slice a0 len cap = .slice (some a) len' cap' := by simpa [Value.cells] using hcs
    cases e
    have key : ∀ i, i < len → ∃ e : Int, (-9223372036854775808 ≤ e ∧ e ≤ 9223372036854775807) ∧ W.cell? (a.add i) = some (.int .i64 e) := by
      intro i hi
      have h1 := hel i hi
      rw [hc, Nat.mul_one, List.getElem?_eq_getElem (by omega)] at h1
      obtain ⟨cs, h2, h3⟩ := Option.bind_eq_some_iff.1 h1
      obtain ⟨c0, rfl, k0⟩ := cells_one h2
      obtain ⟨z, ez, _, qz⟩ := DataW.trod_int Try.underlying2 h3
      simp only [List.cons.injEq, and_true] at ez
      subst ez
      simp [Lit.wf, IntKind.min, IntKind.max, IntKind.signed, IntKind.bits] at qz
      exact ⟨z, by omega, k0⟩
    obtain ⟨l, hll, hp⟩ := exists_list len key
    refine ⟨l, ⟨some a, cap, by rw [hll], fun j hj => ?_⟩, by unfold maxLen at hm; omega, fun z hz => ?_⟩
    · obtain ⟨h1, h2⟩ := hp j _ (List.getElem?_eq_getElem hj)
      obtain ⟨e0, _, q0⟩ := key 0 (by omega)
      have ha : a = ⟨a.block, a.off, none⟩ := cell_spot (by simpa [Addr.add] using q0)
      rw [add_spot ha] at h2
      refine ⟨a.block, a.off, by rw [← ha], ?_⟩
      rw [h2]
      simp [List.getD, hj]
    · obtain ⟨j, hj⟩ := List.getElem?_of_mem hz
      exact (hp j z hj).1
end
end Go.Proofs.Ytonmdkhfongmhaa

namespace Go.Proofs.Ytonmdkhfongmhaa
open Go.RowKit

/-- A callee's word: a float. -/
def SFl (x : F) (_ : FuncId) (_ : Array Value) (v : Value) : Prop := ∃ r, v = .float .f32 r ∧ Is r x

theorem row_blk {w : World} {b : Nat} {cs : Array Value} {t : TypeId} (h : Blk w b cs t) : RowAt w b 0 cs := fun i v hv => by rw [Nat.zero_add]; exact h.at hv
theorem soft_getAt {ops : Array Oper} {S : FuncId → Array Value → Value → Prop} {Q : Act → Prop} {a : Act} {rest : List Oper} {dst : Option Tmp} {ty : TypeId} {X : Operand} {pos : String} {after : Array Edge} {w : World}
    {T : TypeId} {d : TypeDesc} {b o : Nat} {cs : Array Value} (hu : Try.prog.underlying T = some d) (hd : (match d with | .struct _ | .array _ _ => true | _ => false) = true) (hi : (Try.prog.info? T).map (·.size) = some cs.size)
    (hf : RowAt w b o cs) (hx : a.eval X = .pointer (some ⟨b, o, none⟩)) (h : wpSoft Try.prog ops (InExt w) S Q rest (a.put dst (.agg cs))) :
    wpSoft Try.prog ops (InExt w) S Q (⟨dst, .load T X, ty, pos, after, none⟩ :: rest) a :=
  soft_value (.agg cs) rfl (fun w' hw' => by
    have hf' : RowAt w' b o cs := fun i v hv => cell_below hw'.below (hf i v hv)
    obtain ⟨ti, h1, h2⟩ := Option.map_eq_some_iff.1 hi
    have hagg : (isAgg T).run Try.prog w' = .ok true w' := by
      unfold isAgg
      rw [Sem.run_bind, run_underlying hu w']
      cases d <;> simp_all
    have hl := run_loadCells_list (P := Try.prog) w' ⟨b, o, none⟩ cs.toList (fun j v hv => by
      rw [Array.getElem?_toList] at hv
      rw [Addr.add_lit]
      exact hf' j v hv)
    rw [Array.length_toList] at hl
    simp only [execOp, hx, Instr.loadAt, Instr.sureAddr, loadVar]
    simp [Sem.run_bind, hagg, sizeOf, typeInfo, h1, h2, hl]) h

set_option maxRecDepth 100000 in
set_option maxHeartbeats 1600000 in
theorem drawS_any (p : Nat) (a : Aq) (s : Si) (t : Int) (w : World) (h : SiOk a s t) (hs : Blk w p s.cells 46) :
    Calls Try.prog 77 #[.pointer (some ⟨p, 0, none⟩), .agg #[.float .f32 a.T, .float .f32 a.S], .int .i64 t] w (RetF (downS a s t) w) := by
  have H : Hid (DownOk a.T a.S s.x s.y s.px s.py t) := h
  obtain ⟨_, ⟨x0, x1⟩, ⟨y0, y1⟩, ⟨px0, px1⟩, ⟨py0, py1⟩, _⟩ := h
  go_enter Try.func77, Try.ntmps77
  go_wp2_with (with_reducible refine wpList_box rfl ?_)
  intro A wA hA1 hA2 hA3 hA4
  have hs' := hs.later hA4
  have HB := Lib.hid hA4
  have d0 : ∀ z, (ext wA z).cell? ⟨A, 0, none⟩ = some (.float .f32 a.T) := fun z => ext_cell wA z (hA3.at rfl)
  have d1 : ∀ z, (ext wA z).cell? ⟨A, 1, none⟩ = some (.float .f32 a.S) := fun z => ext_cell wA z (hA3.at rfl)
  have c0 : ∀ z, (ext wA z).cell? ⟨p, 0, none⟩ = some (.int .i8 s.x) := fun z => ext_cell wA z (hs'.at rfl)
  have c1 : ∀ z, (ext wA z).cell? ⟨p, 1, none⟩ = some (.int .i8 s.y) := fun z => ext_cell wA z (hs'.at rfl)
  have c2 : ∀ z, (ext wA z).cell? ⟨p, 2, none⟩ = some (.float .f32 s.r) := fun z => ext_cell wA z (hs'.at rfl)
  have c3 : ∀ z, (ext wA z).cell? ⟨p, 3, none⟩ = some (.int .i8 s.px) := fun z => ext_cell wA z (hs'.at rfl)
  have c4 : ∀ z, (ext wA z).cell? ⟨p, 4, none⟩ = some (.int .i8 s.py) := fun z => ext_cell wA z (hs'.at rfl)
  have RA := Lib.hid (row_blk hA3)
  have RW := Lib.hid (site_row hs')
  clear hA3 hA4 hs hs' d0 d1 c0 c1 c2
  go_wp2_with fail
  refine wp_soft (SFl (downS a s t)) (by kernel_rfl) (by kernel_rfl) ?_
  repeat (first | ((with_reducible refine soft_getAt (T := 42) (b := A) (o := 0) (cs := #[.float .f32 a.T, .float .f32 a.S]) Try.underlying42 ?_ ?_ ?_ ?_ ?_); rfl; exact sizeAq; exact RA.out; rfl) | ((with_reducible refine soft_getAt (T := 44) (b := p) (o := 0) (cs := #[.int .i8 s.x, .int .i8 s.y, .float .f32 s.r]) Try.underlying44 ?_ ?_ ?_ ?_ ?_); rfl; exact sizeWell; exact RW.out; rfl) | (refine soft_step (fun K hK => ?_); go_simp; (try go_bits); refine hK _ ?_; clear hK K) | (refine soft_step (fun K hK => ?_); go_simp; refine ⟨_, _, ⟨rfl, rfl⟩, fun zz => ?_, ?_⟩; ((with_reducible refine (drawdown_any a.T a.S s.r s.x s.y s.px s.py t _ H.out).mono ?_); rintro e w1 ⟨r, he, hr, hb⟩; exact ⟨_, he, ⟨r, rfl, hr⟩, hb⟩); rintro v ⟨r, rfl, hr⟩; refine hK _ ?_; clear hK K))
  refine soft_nil ?_
  rintro w5 hw5
  have HB5 := Lib.hid (below_next HB.out hw5.below)
  have HR := Lib.hid hr
  clear hw5 hr
  go_wp2_with fail
  go_ret
  exact ⟨_, rfl, HR.out, HB5.out⟩

/-- The difference of a reading. -/
def difF (a : Aq) (s : Si) (r : Rd) : F := fsub (levF r.l) (downS a s r.t)
/-- The callees' words in a difference. -/
def SDif (a : Aq) (s : Si) (r : Rd) (_ : FuncId) (args : Array Value) (v : Value) : Prop := (args.size = 1 ∧ ∃ q, v = .float .f32 q ∧ Is q (levF r.l)) ∨ (args.size = 3 ∧ ∃ q, v = .float .f32 q ∧ Is q (downS a s r.t))
theorem SDif.one {a : Aq} {s : Si} {r : Rd} {f : FuncId} {x v : Value} (h : SDif a s r f #[x] v) : ∃ q, v = .float .f32 q ∧ Is q (levF r.l) := by
  rcases h with ⟨_, h⟩ | ⟨h3, _⟩
  · exact h
  · exact absurd h3 (by simp)
theorem SDif.three {a : Aq} {s : Si} {r : Rd} {f : FuncId} {x y z v : Value} (h : SDif a s r f #[x, y, z] v) : ∃ q, v = .float .f32 q ∧ Is q (downS a s r.t) := by
  rcases h with ⟨h3, _⟩ | ⟨_, h⟩
  · exact absurd h3 (by simp)
  · exact h

set_option maxRecDepth 100000 in
set_option maxHeartbeats 1600000 in
theorem l04Difference_any (a : Aq) (s : Si) (r : Rd) (w : World) (h : SiOk a s r.t) :
    Calls Try.prog 60 #[.agg #[.float .f32 a.T, .float .f32 a.S], .agg s.cells, .agg #[.int .i64 r.t, .int .i16 r.l]] w (RetF (difF a s r) w) := by
  have H := Lib.hid h
  clear h
  go_enter Try.func60, Try.ntmps60
  go_wp2_with (with_reducible refine wpList_box rfl ?_)
  intro A wA hA1 hA2 hA3 hA4
  go_wp2_with (with_reducible refine wpList_box rfl ?_)
  intro B wB hB1 hB2 hB3 hB4
  go_wp2_with (with_reducible refine wpList_box rfl ?_)
  intro C wC hC1 hC2 hC3 hC4
  have hA' := (hA3.later hB4).later hC4
  have hB' := hB3.later hC4
  have HB := Lib.hid (below_next (below_next hA4 hB4) hC4)
  have d0 : ∀ z, (ext wC z).cell? ⟨A, 0, none⟩ = some (.float .f32 a.T) := fun z => ext_cell wC z (hA'.at rfl)
  have d1 : ∀ z, (ext wC z).cell? ⟨A, 1, none⟩ = some (.float .f32 a.S) := fun z => ext_cell wC z (hA'.at rfl)
  have c0 : ∀ z, (ext wC z).cell? ⟨B, 0, none⟩ = some (.int .i8 s.x) := fun z => ext_cell wC z (hB'.at rfl)
  have c1 : ∀ z, (ext wC z).cell? ⟨B, 1, none⟩ = some (.int .i8 s.y) := fun z => ext_cell wC z (hB'.at rfl)
  have c2 : ∀ z, (ext wC z).cell? ⟨B, 2, none⟩ = some (.float .f32 s.r) := fun z => ext_cell wC z (hB'.at rfl)
  have c3 : ∀ z, (ext wC z).cell? ⟨B, 3, none⟩ = some (.int .i8 s.px) := fun z => ext_cell wC z (hB'.at rfl)
  have c4 : ∀ z, (ext wC z).cell? ⟨B, 4, none⟩ = some (.int .i8 s.py) := fun z => ext_cell wC z (hB'.at rfl)
  have e0 : ∀ z, (ext wC z).cell? ⟨C, 0, none⟩ = some (.int .i64 r.t) := fun z => ext_cell wC z (hC3.at rfl)
  have e1 : ∀ z, (ext wC z).cell? ⟨C, 1, none⟩ = some (.int .i16 r.l) := fun z => ext_cell wC z (hC3.at rfl)
  have RA := Lib.hid (row_blk hA')
  have RS := Lib.hid (row_blk hB')
  have RR := Lib.hid (row_blk hC3)
  clear hA3 hA4 hB3 hB4 hC3 hC4 hA' hB' d0 d1 c0 c1 c2 c3 c4 e1
  go_wp2_with fail
  refine wp_soft (SDif a s r) (by kernel_rfl) (by kernel_rfl) ?_
  repeat (first | ((with_reducible refine soft_getAt (T := 81) (b := C) (o := 0) (cs := #[.int .i64 r.t, .int .i16 r.l]) Try.underlying81 ?_ ?_ ?_ ?_ ?_); rfl; exact sizeRd; exact RR.out; rfl) | ((with_reducible refine soft_getAt (T := 42) (b := A) (o := 0) (cs := #[.float .f32 a.T, .float .f32 a.S]) Try.underlying42 ?_ ?_ ?_ ?_ ?_); rfl; exact sizeAq; exact RA.out; rfl) | ((with_reducible refine soft_getAt (T := 46) (b := B) (o := 0) (cs := s.cells) Try.underlying46 ?_ ?_ ?_ ?_ ?_); rfl; exact sizeSt; exact RS.out; rfl) | (refine soft_arith (fun _ n h => h.drewN n) _ _ rfl rfl rfl ?_; intro r7 hr7) | (refine soft_step (fun K hK => ?_); go_simp; (try go_bits); refine hK _ ?_; clear hK K) | (refine soft_step (fun K hK => ?_); go_simp; refine ⟨_, _, ⟨rfl, rfl⟩, fun zz => ?_, ?_⟩; ((with_reducible refine (l04Level_any r.t r.l _).mono ?_); rintro e w1 ⟨q, he, hr, hb⟩; exact ⟨_, he, .inl ⟨rfl, q, rfl, hr⟩, hb⟩); intro v hv; obtain ⟨q1, rfl, hq1⟩ := hv.one; clear hv; refine hK _ ?_; clear hK K) | (refine soft_step (fun K hK => ?_); go_simp; refine ⟨_, _, ⟨rfl, rfl⟩, fun zz => ?_, ?_⟩; ((with_reducible refine (l04Drawdown_any a s r.t _ H.out).mono ?_); rintro e w1 ⟨q, he, hr, hb⟩; exact ⟨_, he, .inr ⟨rfl, q, rfl, hr⟩, hb⟩); intro v hv; obtain ⟨q2, rfl, hq2⟩ := hv.three; clear hv; refine hK _ ?_; clear hK K))
  refine soft_nil ?_
  rintro w5 hw5
  have HB5 := Lib.hid (below_next HB.out hw5.below)
  have HR := Lib.hid (hr7.op hq1 hq2)
  clear hw5 hr7
  go_wp2_with fail
  go_ret
  exact ⟨_, rfl, HR.out, HB5.out⟩
end Go.Proofs.Ytonmdkhfongmhaa
