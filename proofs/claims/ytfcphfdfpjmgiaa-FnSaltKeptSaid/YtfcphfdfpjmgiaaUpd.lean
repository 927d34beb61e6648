/- A field that is changed at some cells. -/
import Derived.Test.YtfcphfdfpjmgiaaLM0
namespace Go.Proofs.Ytfcphfdfpjmgiaa
open Go.RowKit

def updL (f d : Nat → F) (l : List Nat) : Nat → F := l.foldl (fun g c => upd g c (d c)) f
theorem updL_snoc (f d : Nat → F) (l : List Nat) (c : Nat) : updL f d (l ++ [c]) = upd (updL f d l) c (d c) := by simp [updL]
theorem updL_out {f d : Nat → F} {c : Nat} : ∀ {l : List Nat}, c ∉ l → updL f d l c = f c := by
  intro l
  unfold updL
  induction l generalizing f with
  | nil => intro _; rfl
  | cons x l ih =>
    intro h
    simp only [List.mem_cons, not_or] at h
    rw [List.foldl_cons, ih h.2]
    exact if_neg h.1
theorem not_take {l : List Nat} (h : l.Nodup) {j c : Nat} (hc : l[j]? = some c) : c ∉ l.take j := by
  intro hm
  have e : l = l.take j ++ c :: l.drop (j + 1) := by
    obtain ⟨hj, he⟩ := List.getElem?_eq_some_iff.1 hc
    rw [← he, ← List.drop_eq_getElem_cons hj, List.take_append_drop]
  rw [e, List.nodup_append] at h
  exact h.2.2 c hm c (by simp) rfl
theorem cells_nodup (W H : Int) (k : Nat) : (cellsTo W H k).Nodup := by
  unfold cellsTo; exact List.Pairwise.filter _ List.nodup_range
end Go.Proofs.Ytfcphfdfpjmgiaa
