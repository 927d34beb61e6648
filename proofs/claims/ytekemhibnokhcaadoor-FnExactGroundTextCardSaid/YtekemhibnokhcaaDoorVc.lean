/- Comparisons of finite numbers. -/
import Derived.Test.YtekemhibnokhcaaDoorWn
namespace Go.Proofs.YtekemhibnokhcaaDoor
open Go.RowKit

theorem val_of {b : Nat} {s : Bool} {m : Nat} {e : Int} (h : Ieee.single.read b = .number s m e) (he : -149 ≤ e) : Val (some b) (Ieee.signed s m (e + 149).toNat) := ⟨b, s, m, e, rfl, h, he, rfl⟩
theorem flt_val {x y : F} {v w : Int} (hx : Val x v) (hy : Val y w) : flt x y = decide (v < w) := by
  unfold flt
  rw [ford_val hx hy]
  rcases Int.lt_trichotomy v w with h | h | h
  · rw [Int.compare_eq_lt.2 h, decide_eq_true h]; rfl
  · subst h; simp
  · rw [Int.compare_eq_gt.2 h, decide_eq_false (by omega)]; rfl
theorem feq_val {x y : F} {v w : Int} (hx : Val x v) (hy : Val y w) : feq x y = decide (v = w) := by
  unfold feq
  rw [ford_val hx hy]
  rcases Int.lt_trichotomy v w with h | h | h
  · rw [Int.compare_eq_lt.2 h, decide_eq_false (by omega)]; rfl
  · subst h; simp
  · rw [Int.compare_eq_gt.2 h, decide_eq_false (by omega)]; rfl
theorem fle_val {x y : F} {v w : Int} (hx : Val x v) (hy : Val y w) : fle x y = decide (v ≤ w) := by
  unfold fle
  rw [flt_val hx hy, feq_val hx hy, ← Bool.decide_or]
  exact decide_eq_decide.2 (by omega)
theorem fge_val {x y : F} {v w : Int} (hx : Val x v) (hy : Val y w) : fge x y = decide (w ≤ v) := by
  unfold fge
  rw [fgt_val hx hy, feq_val hx hy, ← Bool.decide_or]
  exact decide_eq_decide.2 (by omega)
theorem fb_ofI (n : Int) : fb (floatOfInt FloatKind.f32 n) = ofI n := by
  have h : floatOfInt FloatKind.f32 n = Ieee.single.write (.number (n < 0) n.natAbs 0) := rfl
  rw [h]
  unfold fb fbOf
  rw [write_num _ _ rfl]
  rfl
theorem Is.ofI (n : Int) : Is (floatOfInt FloatKind.f32 n) (ofI n) := fb_ofI n
theorem below_next {a w w' : World} (h : Below a.heap.size a w) (hb : Below w.heap.size w w') : Below a.heap.size a w' := h.trans (hb.mono h.size)
end Go.Proofs.YtekemhibnokhcaaDoor
