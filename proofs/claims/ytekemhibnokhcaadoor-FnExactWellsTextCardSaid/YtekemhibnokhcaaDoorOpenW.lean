/- An aquifer and a well that come in as arguments, opened. -/
import Derived.Test.YtekemhibnokhcaaDoorLeaf
import Derived.ProofKit
import Derived.OpenShut
namespace Go.Proofs.YtekemhibnokhcaaDoor
open Go.ChangeShapes Go.WideShapes Go.ChangeAt Go.RowKit

theorem len_two {α : Type} {l : List α} (h : l.length = 2) : ∃ a b, l = [a, b] := by
  rcases l with _ | ⟨a, _ | ⟨b, _ | ⟨c, r⟩⟩⟩
  · cases h
  · cases h
  · exact ⟨a, b, rfl⟩
  · simp at h
theorem len_three {α : Type} {l : List α} (h : l.length = 3) : ∃ a b c, l = [a, b, c] := by
  rcases l with _ | ⟨a, _ | ⟨b, _ | ⟨c, _ | ⟨d, r⟩⟩⟩⟩
  · cases h
  · cases h
  · cases h
  · exact ⟨a, b, c, rfl⟩
  · simp at h
section
variable {H : Type} {enc : TypeId × Value → H} {w : World} {base fuel : Nat} {spare : Nat → Bool} {held : Bool} {cs : List Value} {x : DataW H × List MemPlace}

theorem trod_float {P : Program} {t : TypeId} {k : FloatKind} (ht : P.underlying t = some (.float k)) (h : DataW.trod enc P w base spare held fuel t cs = some x) : ∃ n, cs = [.float k n] ∧ (Lit.float k n).wf = true := by
  cases fuel with
  | zero => simp [DataW.trod] at h
  | succ n =>
    unfold DataW.trod at h
    rw [ht] at h
    split at h <;> simp_all

theorem well_cells (h : DataW.trod enc Tryd.prog w base spare held fuel 45 cs = some x) : ∃ (X Y : Int) (R : Nat), cs = [.int .i8 X, .int .i8 Y, .float .f32 R] ∧ (-128 ≤ X ∧ X ≤ 127) ∧ (-128 ≤ Y ∧ Y ≤ 127) ∧ R < 2 ^ 32 := by
  obtain ⟨xs, n, rfl, rfl, hl, hx, hf⟩ := DataW.trod_struct Tryd.underlying45 h
  have hc : Tryd.prog.cellsOf 45 = 3 := by kernel_rfl
  have cf : Tryd.prog.cellsOf 30 = 1 := by kernel_rfl
  have c8 : Tryd.prog.cellsOf 29 = 1 := by kernel_rfl
  rw [hc] at hl
  have hx3 : xs.length = 3 := hx
  have f0 : DataW.trod enc Tryd.prog w base spare held n 29 ((cs.drop 0).take (Tryd.prog.cellsOf 29)) = xs[0]? := hf 0 _ rfl
  have f1 : DataW.trod enc Tryd.prog w base spare held n 29 ((cs.drop 1).take (Tryd.prog.cellsOf 29)) = xs[1]? := hf 1 _ rfl
  have f2 : DataW.trod enc Tryd.prog w base spare held n 30 ((cs.drop 2).take (Tryd.prog.cellsOf 30)) = xs[2]? := hf 2 _ rfl
  rw [c8, List.getElem?_eq_getElem (by omega)] at f0 f1
  rw [cf, List.getElem?_eq_getElem (by omega)] at f2
  obtain ⟨a, ea, _, qa⟩ := DataW.trod_int Tryd.underlying29 f0
  obtain ⟨b, eb, _, qb⟩ := DataW.trod_int Tryd.underlying29 f1
  obtain ⟨r, er, wr⟩ := trod_float Tryd.underlying30 f2
  obtain ⟨c0, c1, c2, rfl⟩ : ∃ c0 c1 c2, cs = [c0, c1, c2] := len_three hl
  simp at ea eb er
  subst ea; subst eb; subst er
  simp [Lit.wf, IntKind.min, IntKind.max, IntKind.signed, IntKind.bits] at qa qb
  exact ⟨a, b, r, rfl, by omega, by omega, by simpa [Lit.wf] using wr⟩
end

set_option maxRecDepth 100000 in
theorem open_well {H : Type} {enc : TypeId × Value → H} {W : World} {r : Reach} {b0 base : Nat} {spare : Nat → Bool} {held : Bool} {v : Value} {d : DataW H} {ps : List MemPlace}
    (hv : Value.okWide Tryd.prog W r b0 45 v) (h : DataW.Trod enc Tryd.prog W base spare held 45 v d ps) : ∃ (X Y : Int) (R : Nat), v = .agg #[.int .i8 X, .int .i8 Y, .float .f32 R] ∧ (-128 ≤ X ∧ X ≤ 127) ∧ (-128 ≤ Y ∧ Y ≤ 127) ∧ R < 2 ^ 32 := by
  obtain ⟨cs, rfl, _⟩ := okWide_struct Tryd.underlying45 hv
  obtain ⟨fuel, hf⟩ := h
  obtain ⟨X, Y, R, hg, hfit⟩ := well_cells hf
  refine ⟨X, Y, R, ?_, hfit⟩
  have : cs.toList = [.int .i8 X, .int .i8 Y, .float .f32 R] := by simpa [Value.cells] using hg
  rw [← Array.toArray_toList (xs := cs), this]
end Go.Proofs.YtekemhibnokhcaaDoor
