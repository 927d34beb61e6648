/- Bits of cells as membership. -/
import Derived.Test.YtfcphfdfpjmgiaaWalkI
namespace Go.Proofs.Ytfcphfdfpjmgiaa
open Go.RowKit

/-- The bits of a list's cells, as a whole number. -/
def beenN (l : List Nat) : Nat := l.foldl (fun a c => a ||| 2 ^ c) 0
theorem beenN_snoc (l : List Nat) (c : Nat) : beenN (l ++ [c]) = beenN l ||| 2 ^ c := by simp [beenN]
theorem beenN_bit (l : List Nat) (k : Nat) : (beenN l).testBit k = decide (k ∈ l) := by
  have key : ∀ (l : List Nat) (a : Nat), (l.foldl (fun a c => a ||| 2 ^ c) a).testBit k = (a.testBit k || decide (k ∈ l)) := by
    intro l
    induction l with
    | nil => intro a; simp
    | cons c r ih =>
      intro a
      show (r.foldl _ (a ||| 2 ^ c)).testBit k = _
      rw [ih, Nat.testBit_or, Nat.testBit_two_pow]
      by_cases h : c = k
      · subst h; simp
      · have h' : ¬ k = c := fun e => h e.symm
        simp [h, h']
  have := key l 0
  simpa [beenN] using this
theorem beenN_lt {l : List Nat} (h : ∀ c ∈ l, c < 64) : beenN l < 2 ^ 64 := by
  apply Nat.lt_pow_two_of_testBit
  intro i hi
  rw [beenN_bit]
  exact decide_eq_false fun hm => by have := h i hm; omega
theorem been_odd (l : List Nat) (k : Nat) : decide (beenN l / 2 ^ k % 2 = 1) = decide (k ∈ l) := by
  rw [← beenN_bit, Nat.testBit_eq_decide_div_mod_eq]
end Go.Proofs.Ytfcphfdfpjmgiaa
