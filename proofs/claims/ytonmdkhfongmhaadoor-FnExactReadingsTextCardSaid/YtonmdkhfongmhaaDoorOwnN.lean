/- Lists in memory of their own: what stays, for elements of any size. -/
import Derived.Test.YtonmdkhfongmhaaDoorFlist
import Derived.Laws.OwnMore
import Derived.OwnWalk
import Derived.Deep.MidRow
namespace Go.Proofs.YtonmdkhfongmhaaDoor
open Go.RowKit

theorem owns_belowN {w w' : World} {base s : Nat} {T : TypeId} {v : Value} {n : Nat} {xs : List Value} (h : w.ownsRow base T s v n xs) (hB : Below w.heap.size w w') : w'.ownsRow base T s v n xs := by
  obtain ⟨h1, h2⟩ := h
  refine ⟨h1, h2.imp id fun ⟨g, cap, cur, e, hb, hg, rest⟩ => ⟨g, cap, cur, e, hb, ?_, rest⟩⟩
  exact (hB.block g (Array.getElem?_eq_some_iff.1 hg).1).trans hg
theorem owns_farN {w w' : World} {base r s : Nat} {T : TypeId} {v : Value} {n : Nat} {xs : List Value} (h : w.ownsRow base T s v n xs) (hg : w.grownBy w' (some r)) (hne : ∀ q, v.ownBlock = some q → q ≠ r) : w'.ownsRow base T s v n xs := by
  obtain ⟨h1, h2⟩ := h
  refine ⟨h1, h2.imp id fun ⟨g, cap, cur, e, hb, hc, rest⟩ => ⟨g, cap, cur, e, hb, ?_, rest⟩⟩
  subst e
  have := hne g rfl
  exact (hg.block g (Array.getElem?_eq_some_iff.1 hc).1 (by simpa using this)).trans hc
theorem owns_monoN {w : World} {base base' s : Nat} {T : TypeId} {v : Value} {n : Nat} {xs : List Value} (h : w.ownsRow base' T s v n xs) (hb : base ≤ base') : w.ownsRow base T s v n xs := by
  obtain ⟨h1, h2⟩ := h
  exact ⟨h1, h2.imp id fun ⟨g, cap, cur, e, hg, rest⟩ => ⟨g, cap, cur, e, Nat.le_trans hb hg, rest⟩⟩
theorem cells_new (w : World) (cs : Array Value) (t : TypeId) : ∀ j u, cs.toList[j]? = some u → (w.alloc (.cells cs t)).cell? ((⟨w.heap.size, 0, none⟩ : Addr).add j) = some u := by
  intro j u hj
  have := (Blk.new' w cs t rfl).at (i := j) (v := u) (by simpa using hj)
  by_cases h0 : j = 0
  · subst h0; simpa [Addr.add] using this
  · simpa [Addr.add, h0] using this
theorem rng_new {w : World} {g : Nat} {cs : List Value} (h : w.rangeAt g 0 cs) (o : Obj) : ∀ j u, cs[j]? = some u → (w.alloc o).cell? ((⟨g, 0, none⟩ : Addr).add j) = some u := by
  intro j u hu
  have h := cell_below ((Below.refl w.heap.size w).alloc (Nat.le_refl _) o) (h j u hu)
  by_cases h0 : j = 0
  · subst h0; simpa [Addr.add] using h
  · simpa [Addr.add, h0] using h
theorem below_drew {B : Nat} {a w : World} (h : Below B a w) : Below B a w.drew := ⟨h.os, h.tape, h.output, h.size, h.block⟩
end Go.Proofs.YtonmdkhfongmhaaDoor
