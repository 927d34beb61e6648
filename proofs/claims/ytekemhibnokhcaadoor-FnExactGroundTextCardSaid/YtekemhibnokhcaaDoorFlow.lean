/- The joint of two conductances, and what flows from a cell to the one beside it. -/
import Derived.Test.YtekemhibnokhcaaDoorMem
import Derived.Lib.Hide
namespace Go.Proofs.YtekemhibnokhcaaDoor
open Go.RowKit

/-- A float is handed back; the world is as it was, but for draws and new memory. -/
def RetF (x : F) (w : World) (e : Ending) (w' : World) : Prop := ∃ r, e = .returned (.float .f32 r) ∧ Is r x ∧ Below w.heap.size w w'



theorem order_gt (x y : Nat) : (FloatKind.f32.format.order x y == some .gt) = fgt (fb x) (fb y) := by rw [order32]; rfl
theorem order_lt (x y : Nat) : (FloatKind.f32.format.order x y == some .lt) = flt (fb x) (fb y) := by rw [order32]; rfl
theorem order_eq (x y : Nat) : (FloatKind.f32.format.order x y == some .eq) = feq (fb x) (fb y) := by rw [order32]; rfl

def joint (a b : F) : F := if fgt a (some 0) && fgt b (some 0) then fdiv (fmul (some 1073741824) (fmul a b)) (fadd a b) else some 0

theorem fb0 : fb 0 = some 0 := by decide
theorem fb2 : fb 1073741824 = some 1073741824 := by decide

def SF (x : F) (_ : FuncId) (_ : Array Value) (v : Value) : Prop := ∃ r, v = .float .f32 r ∧ Is r x

/-- A callee's word: it hands back this value. -/
def SV (x : Value) (_ : FuncId) (_ : Array Value) (v : Value) : Prop := v = x

def flow (m : M) (k s : Nat) : F :=
  if beside m.wide m.high k s < 0 then some 0
  else fmul (joint (m.c k) (m.c (beside m.wide m.high k s).toNat)) (fsub (m.h k) (m.h (beside m.wide m.high k s).toNat))

theorem beside_lt (W H : Int) (k s : Nat) (hk : k < 64) (hW : W ≤ 8) (hH : H ≤ 8) : beside W H k s < 64 ∧ -1 ≤ beside W H k s := by
  unfold beside besideXY
  simp only []
  split <;> split <;> (first | omega | (split <;> (first | omega | (split <;> omega))))

end Go.Proofs.YtekemhibnokhcaaDoor
