/- The first of some cells whose number has the greatest size. -/
import Derived.Test.YtbhnnglpakdigaaAbs
namespace Go.Proofs.Ytbhnnglpakdigaa
open Go.RowKit

def bestStep (d : Nat → F) (best : Option Nat) (c : Nat) : Option Nat :=
  match best with
  | none => some c
  | some b => if fgt (fabs (d c)) (fabs (d b)) then some c else some b
def bestOf (d : Nat → F) (l : List Nat) : Option Nat := l.foldl (bestStep d) none
def bestI : Option Nat → Int
  | none => -1
  | some b => b
theorem bestOf_snoc (d : Nat → F) (l : List Nat) (c : Nat) : bestOf d (l ++ [c]) = bestStep d (bestOf d l) c := by simp [bestOf]
theorem bestOf_mem {d : Nat → F} : ∀ {l : List Nat} {b : Nat}, bestOf d l = some b → b ∈ l := by
  intro l
  have key : ∀ (l : List Nat) (s : Option Nat) (b : Nat), l.foldl (bestStep d) s = some b → (s = some b ∨ b ∈ l) := by
    intro l
    induction l with
    | nil => intro s b h; exact .inl h
    | cons c l ih =>
      intro s b h
      rcases ih _ _ h with h1 | h1
      · unfold bestStep at h1
        split at h1
        · cases h1; exact .inr (by simp)
        · split at h1
          · cases h1; exact .inr (by simp)
          · exact .inl h1
      · exact .inr (List.mem_cons_of_mem _ h1)
  intro b h
  rcases key l none b h with h1 | h1
  · cases h1
  · exact h1

/-- A list of whole numbers that a slice shows. -/
def ListAt (w : World) (v : Value) (l : List Nat) : Prop :=
  ∃ a cap, v = .slice a l.length cap ∧ ∀ (j c : Nat), l[j]? = some c → ∃ gq, a = some ⟨gq, 0, none⟩ ∧ w.cell? ⟨gq, j, none⟩ = some (.int .i64 c)

/-- A callee's word: the size of what it is given. -/
def SSize (_ : FuncId) (args : Array Value) (v : Value) : Prop := ∃ a r, args = #[.float .f32 a] ∧ v = .float .f32 r ∧ Is r (fabs (fb a))

end Go.Proofs.Ytbhnnglpakdigaa
