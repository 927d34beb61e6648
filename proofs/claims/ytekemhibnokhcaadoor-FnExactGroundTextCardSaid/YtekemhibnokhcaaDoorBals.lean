/- The balances of all cells. -/
import Derived.Test.YtekemhibnokhcaaDoorCells
namespace Go.Proofs.YtekemhibnokhcaaDoor
open Go.RowKit

def fin (x : F) : Bool := feq (fsub x x) (some 0)

/-- A bool is handed back; the world is as it was, but for draws and new memory. -/
def RetB (x : Bool) (w : World) (e : Ending) (w' : World) : Prop := e = .returned (.bool x) ∧ Below w.heap.size w w'

/-- A list of whole numbers in memory. -/
theorem list_form {w : World} {base : Nat} {v : Value} {l : List Nat} (h : w.ownsRow base 3 1 v l.length (ints l)) :
    ∃ a cap, v = .slice a l.length cap ∧ ∀ (j c : Nat), l[j]? = some c → ∃ gq, a = some ⟨gq, 0, none⟩ ∧ base ≤ gq ∧ gq < w.heap.size ∧ w.cell? ⟨gq, j, none⟩ = some (.int .i64 c) := by
  obtain ⟨h1, h2 | ⟨g, cap, cur, rfl, hb, hg, _⟩⟩ := h
  · obtain ⟨rfl, h0⟩ := h2
    refine ⟨none, 0, by rw [h0], fun j c hc => ?_⟩
    have : l = [] := List.eq_nil_of_length_eq_zero h0
    subst this; cases hc
  · refine ⟨_, cap, rfl, fun j c hc => ⟨g, rfl, hb, (Array.getElem?_eq_some_iff.1 hg).1, ?_⟩⟩
    have hj : j < l.length := (List.getElem?_eq_some_iff.1 hc).1
    have := World.ownsRow.cellAt (w := w) (base := base) (e := 3) (size := 1) (g := g) (n := l.length) (cap := cap) (xs := ints l) ⟨h1, .inr ⟨g, cap, cur, rfl, hb, hg, ‹_›⟩⟩ j (by omega)
    rw [this]
    simp [ints, hc]

def balF (m : M) (l : List Nat) (i : Nat) : F := if i < 64 then (if i ∈ l then balTo m i 4 else some 0) else none
def balOk (m : M) (l : List Nat) : Bool := l.all fun c => fin (balTo m c 4)
def cellsM (m : M) : List Nat := cellsTo m.wide m.high 64

def RetBals (m : M) (w : World) (e : Ending) (w' : World) : Prop := ∃ f, e = .returned (.tuple #[.agg (arrF f), .bool (balOk m (cellsM m))]) ∧ fm f = balF m (cellsM m) ∧ Below w.heap.size w w'

def BalsRel (m : M) (w1 : World) (B : Nat) (v5 v12 : Value) (wr : World) : Prop :=
  ∃ (j : Nat) (f : Nat → Nat) (ok : Bool), j ≤ (cellsM m).length ∧ v12 = .int .i64 j ∧ v5 = .bool ok ∧ ok = balOk m ((cellsM m).take j) ∧ fm f = balF m ((cellsM m).take j) ∧ Blk wr B (arrF f) 36 ∧ w1.grownBy wr (some B)

theorem take_more {l : List Nat} {j c : Nat} (h : l[j]? = some c) : l.take (j + 1) = l.take j ++ [c] := by
  rw [List.take_add_one, h]; rfl
theorem balF_more {m : M} {l : List Nat} {j c : Nat} (h : l[j]? = some c) (hc : c < 64) : balF m (l.take (j + 1)) = upd (balF m (l.take j)) c (balTo m c 4) := by
  rw [take_more h]
  funext i
  unfold balF upd
  by_cases e : i = c
  · subst e; simp [hc]
  · simp [e]
theorem balOk_more {m : M} {l : List Nat} {j c : Nat} (h : l[j]? = some c) : balOk m (l.take (j + 1)) = (balOk m (l.take j) && fin (balTo m c 4)) := by
  rw [take_more h]; simp [balOk, List.all_append]
theorem balF_nil (m : M) : fm (fun _ => 0) = balF m [] := by
  funext i
  unfold fm balF
  simp [fb0]

theorem GAt.grown {w w' : World} {b o r : Nat} {g : G} (h : GAt w b o g) (hg : w.grownBy w' (some r)) (hne : b ≠ r) : GAt w' b o g := fun i hi => cell_grown (h i hi) hg hne

end Go.Proofs.YtekemhibnokhcaaDoor
