/- The size of a finite number, as a whole number of least units. -/
import Derived.Test.YtekemhibnokhcaaDoorLe
namespace Go.Proofs.YtekemhibnokhcaaDoor
open Go.RowKit

theorem signed_add (s : Bool) (m u d : Nat) : Ieee.signed s m (u + d) = Ieee.signed s m u * 2 ^ d := by
  unfold Ieee.signed
  rw [Nat.shiftLeft_add, Nat.shiftLeft_eq (m <<< u) d]
  generalize m <<< u = M
  cases s
  · simp
  · simp [Int.neg_mul]
theorem compare_mul (a b p : Int) (hp : 0 < p) : compare (a * p) (b * p) = compare a b := by
  rcases Int.lt_trichotomy a b with h | h | h
  · rw [Int.compare_eq_lt.2 h, Int.compare_eq_lt.2 (Int.mul_lt_mul_of_pos_right h hp)]
  · subst h; simp
  · rw [Int.compare_eq_gt.2 h, Int.compare_eq_gt.2 (Int.mul_lt_mul_of_pos_right h hp)]

/-- A finite number's size in the least units. -/
def Val (x : F) (v : Int) : Prop := ∃ b s m e, x = some b ∧ Ieee.single.read b = .number s m e ∧ -149 ≤ e ∧ v = Ieee.signed s m (e + 149).toNat
theorem ford_val {x y : F} {v w : Int} (hx : Val x v) (hy : Val y w) : ford x y = some (compare v w) := by
  obtain ⟨a, s, m, e, rfl, ha, he, rfl⟩ := hx
  obtain ⟨b, t, n, f, rfl, hb, hf, rfl⟩ := hy
  show (Ieee.single.read a).order (Ieee.single.read b) = _
  rw [ha, hb]
  simp only [Ieee.Datum.order, Option.some.injEq]
  generalize hB : min e f = B
  have e1 : (e + 149).toNat = (e - B).toNat + (B + 149).toNat := by omega
  have e2 : (f + 149).toNat = (f - B).toNat + (B + 149).toNat := by omega
  rw [e1, e2, signed_add, signed_add, compare_mul _ _ _ (Int.pow_pos (by decide))]
theorem val_zero : Val (some 0) 0 := ⟨0, false, 0, -149, rfl, read0, by omega, rfl⟩
theorem Le.val {x : F} {k : Int} (h : Le x k) : ∃ v, Val x v := by
  obtain ⟨b, s, m, e, h1, h2, h3, _⟩ := h
  exact ⟨_, b, s, m, e, h1, h2, h3, rfl⟩
theorem fgt_val {x y : F} {v w : Int} (hx : Val x v) (hy : Val y w) : fgt x y = decide (w < v) := by
  unfold fgt
  rw [ford_val hx hy]
  rcases Int.lt_trichotomy v w with h | h | h
  · rw [Int.compare_eq_lt.2 h, decide_eq_false (by omega)]; rfl
  · subst h; simp
  · rw [Int.compare_eq_gt.2 h, decide_eq_true h]; rfl
end Go.Proofs.YtekemhibnokhcaaDoor
