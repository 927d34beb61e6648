/- The first of some cells whose number has the greatest size. -/
import Derived.Test.YtonmdkhfongmhaaAbs
namespace Go.Proofs.Ytonmdkhfongmhaa
open Go.RowKit

def bestStep (d : Nat → F) (best : Option Nat) (c : Nat) : Option Nat :=
  match best with
  | none => some c
  | some b => if fgt (fabs (d c)) (fabs (d b)) then some c else some b
def bestOf (d : Nat → F) (l : List Nat) : Option Nat := l.foldl (bestStep d) none
def bestI : Option Nat → Int
  | none => -1
  | some b => b
theorem bestOf_snoc (d : Nat → F) (l : List Nat) (c : Nat) : bestOf d (l ++ [c]) = bestStep d (bestOf d l) c := by simp [bestOf]
theorem bestOf_mem {d : Nat → F} : ∀ {l : List Nat} {b : Nat}, bestOf d l = some b → b ∈ l := by
  intro l
  have key : ∀ (l : List Nat) (s : Option Nat) (b : Nat), l.foldl (bestStep d) s = some b → (s = some b ∨ b ∈ l) := by
    intro l
    induction l with
    | nil => intro s b h; exact .inl h
    | cons c l ih =>
      intro s b h
      rcases ih _ _ h with h1 | h1
      · unfold bestStep at h1
        split at h1
        · cases h1; exact .inr (by simp)
        · split at h1
          · cases h1; exact .inr (by simp)
          · exact .inl h1
      · exact .inr (List.mem_cons_of_mem _ h1)
  intro b h
  rcases key l none b h with h1 | h1
  · cases h1
  · exact h1

/-- A list of whole numbers that a slice shows. -/
def ListAt (w : World) (v : Value) (l : List Nat) : Prop :=
  ∃ a cap, v = .slice a l.length cap ∧ ∀ (j c : Nat), l[j]? = some c → ∃ gq, a = some ⟨gq, 0, none⟩ ∧ w.cell? ⟨gq, j, none⟩ = some (.int .i64 c)

/-- A callee's word: the size of what it is given. -/
def SSize (_ : FuncId) (args : Array Value) (v : Value) : Prop := ∃ a r, args = #[.float .f32 a] ∧ v = .float .f32 r ∧ Is r (fabs (fb a))

theorem listAt_of {w : World} {base : Nat} {v : Value} {l : List Nat} (h : w.ownsRow base 3 1 v l.length (ints l)) : ListAt w v l := by
  obtain ⟨a, cap, rfl, hL⟩ := list_form h
  exact ⟨a, cap, rfl, fun j c hc => by obtain ⟨gq, h1, _, _, h2⟩ := hL j c hc; exact ⟨gq, h1, h2⟩⟩

theorem bestOf_congr {d d' : Nat → F} : ∀ {l : List Nat}, (∀ c ∈ l, d c = d' c) → bestOf d l = bestOf d' l := by
  intro l
  have key : ∀ (l : List Nat) (s : Option Nat), (∀ c ∈ l, d c = d' c) → (∀ b, s = some b → d b = d' b) → l.foldl (bestStep d) s = l.foldl (bestStep d') s := by
    intro l
    induction l with
    | nil => intro s _ _; rfl
    | cons c l ih =>
      intro s h hs
      have hc : d c = d' c := h c (by simp)
      have e : bestStep d s c = bestStep d' s c := by
        unfold bestStep
        cases s with
        | none => rfl
        | some b => simp only; rw [hc, hs b rfl]
      show l.foldl _ (bestStep d s c) = l.foldl _ (bestStep d' s c)
      rw [e]
      refine ih _ (fun x hx => h x (List.mem_cons_of_mem _ hx)) fun b hb => ?_
      unfold bestStep at hb
      cases s with
      | none => cases hb; exact hc
      | some b0 =>
        simp only at hb
        split at hb
        · cases hb; exact hc
        · exact hs b hb
  intro h
  exact key l none h (fun _ h => by cases h)
theorem bestOf_some {d : Nat → F} {l : List Nat} (h : l ≠ []) : ∃ b, bestOf d l = some b := by
  have key : ∀ (l : List Nat) (b0 : Nat), ∃ b, l.foldl (bestStep d) (some b0) = some b := by
    intro l
    induction l with
    | nil => intro b0; exact ⟨b0, rfl⟩
    | cons c l ih =>
      intro b0
      show ∃ b, l.foldl _ (bestStep d (some b0) c) = some b
      unfold bestStep
      simp only
      split
      · exact ih c
      · exact ih b0
  cases l with
  | nil => exact absurd rfl h
  | cons c l => exact key l c
theorem has0 {W H : Int} (hW : 2 ≤ W) (hH : 2 ≤ H) : hasB W H 0 = true := by unfold hasB; simp; omega
theorem cells_ne {m : M} (hW : 2 ≤ m.wide) (hH : 2 ≤ m.high) : cellsM m ≠ [] := by
  unfold cellsM cellsTo
  intro h
  have : (0 : Nat) ∈ (List.range 64).filter fun c => hasB m.wide m.high c := List.mem_filter.2 ⟨by simp, has0 hW hH⟩
  rw [h] at this
  cases this

end Go.Proofs.Ytonmdkhfongmhaa
