/- The balance of a cell. -/
import Derived.Test.YtekemhibnokhcaaDoorFlow
namespace Go.Proofs.YtekemhibnokhcaaDoor
open Go.RowKit

theorem GAt.below {w w' : World} {b o : Nat} {g : G} (h : GAt w b o g) (hb : Below w.heap.size w w') : GAt w' b o g := fun i hi => by
  have h1 := h i hi
  have h2 : b < w.heap.size := block_lt_of_cell h1
  rw [← h1]; exact hb.cell (p := ⟨b, o + i, none⟩) h2

theorem cell_below {w w' : World} {b o : Nat} {v : Value} (h : Below w.heap.size w w') (hc : w.cell? ⟨b, o, none⟩ = some v) : w'.cell? ⟨b, o, none⟩ = some v := by
  rw [← hc]; exact h.cell (p := ⟨b, o, none⟩) (block_lt_of_cell hc)

theorem Is.op {r a b : Nat} {op : BinOp} {A B : F} (h : Is r (fop op (fb a) (fb b))) (ha : Is a A) (hb : Is b B) : Is r (fop op A B) := by
  rw [ha.out, hb.out] at h; exact h

def balTo (m : M) (k : Nat) : Nat → F
  | 0 => m.g k
  | s + 1 => if 0 ≤ beside m.wide m.high k s then fsub (balTo m k s) (flow m k s) else balTo m k s

theorem balTo_yes {g : M} {k s : Nat} (h : 0 ≤ beside g.wide g.high k s) : balTo g k (s + 1) = fsub (balTo g k s) (flow g k s) := if_pos h
theorem balTo_no {g : M} {k s : Nat} (h : ¬ 0 ≤ beside g.wide g.high k s) : balTo g k (s + 1) = balTo g k s := if_neg h

def BalRel (g : G) (k : Nat) (w : World) (v5 v13 : Value) (wr : World) : Prop := ∃ s r : Nat, s ≤ 4 ∧ v13 = .int .i64 s ∧ v5 = .float .f32 r ∧ Is r (balTo g.m k s) ∧ Below w.heap.size w wr

end Go.Proofs.YtekemhibnokhcaaDoor
