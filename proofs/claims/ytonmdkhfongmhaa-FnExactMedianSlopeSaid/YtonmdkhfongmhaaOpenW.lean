/- An aquifer and a well that come in as arguments, opened. -/
import Derived.Test.YtonmdkhfongmhaaLeaf
import Derived.ProofKit
import Derived.OpenShut
namespace Go.Proofs.Ytonmdkhfongmhaa
open Go.ChangeShapes Go.WideShapes Go.ChangeAt Go.RowKit

theorem len_two {α : Type} {l : List α} (h : l.length = 2) : ∃ a b, l = [a, b] := by
  rcases l with _ | ⟨a, _ | ⟨b, _ | ⟨c, r⟩⟩⟩
  · cases h
  · cases h
  · exact ⟨a, b, rfl⟩
  · simp at h
theorem len_three {α : Type} {l : List α} (h : l.length = 3) : ∃ a b c, l = [a, b, c] := by
  rcases l with _ | ⟨a, _ | ⟨b, _ | ⟨c, _ | ⟨d, r⟩⟩⟩⟩
  · cases h
  · cases h
  · cases h
  · exact ⟨a, b, c, rfl⟩
  · simp at h
section
variable {H : Type} {enc : TypeId × Value → H} {w : World} {base fuel : Nat} {spare : Nat → Bool} {held : Bool} {cs : List Value} {x : DataW H × List MemPlace}

theorem trod_float {P : Program} {t : TypeId} {k : FloatKind} (ht : P.underlying t = some (.float k)) (h : DataW.trod enc P w base spare held fuel t cs = some x) : ∃ n, cs = [.float k n] ∧ (Lit.float k n).wf = true := by
  cases fuel with
  | zero => simp [DataW.trod] at h
  | succ n =>
    unfold DataW.trod at h
    rw [ht] at h
    split at h <;> simp_all

theorem aquifer_cells (h : DataW.trod enc Try.prog w base spare held fuel 34 cs = some x) : ∃ T S : Nat, cs = [.float .f32 T, .float .f32 S] ∧ T < 2 ^ 32 ∧ S < 2 ^ 32 := by
  obtain ⟨xs, n, rfl, rfl, hl, hx, hf⟩ := DataW.trod_struct Try.underlying34 h
  have hc : Try.prog.cellsOf 34 = 2 := by kernel_rfl
  have cf : Try.prog.cellsOf 24 = 1 := by kernel_rfl
  rw [hc] at hl
  have hx2 : xs.length = 2 := hx
  have f0 : DataW.trod enc Try.prog w base spare held n 24 ((cs.drop 0).take (Try.prog.cellsOf 24)) = xs[0]? := hf 0 _ rfl
  have f1 : DataW.trod enc Try.prog w base spare held n 24 ((cs.drop 1).take (Try.prog.cellsOf 24)) = xs[1]? := hf 1 _ rfl
  rw [cf, List.getElem?_eq_getElem (by omega)] at f0 f1
  obtain ⟨a, ea, wa⟩ := trod_float Try.underlying24 f0
  obtain ⟨b, eb, wb⟩ := trod_float Try.underlying24 f1
  obtain ⟨c0, c1, rfl⟩ : ∃ c0 c1, cs = [c0, c1] := len_two hl
  simp at ea eb
  subst ea; subst eb
  exact ⟨a, b, rfl, by simpa [Lit.wf] using wa, by simpa [Lit.wf] using wb⟩

theorem well_cells (h : DataW.trod enc Try.prog w base spare held fuel 37 cs = some x) : ∃ (X Y : Int) (R : Nat), cs = [.int .i8 X, .int .i8 Y, .float .f32 R] ∧ (-128 ≤ X ∧ X ≤ 127) ∧ (-128 ≤ Y ∧ Y ≤ 127) ∧ R < 2 ^ 32 := by
  obtain ⟨xs, n, rfl, rfl, hl, hx, hf⟩ := DataW.trod_struct Try.underlying37 h
  have hc : Try.prog.cellsOf 37 = 3 := by kernel_rfl
  have cf : Try.prog.cellsOf 24 = 1 := by kernel_rfl
  have c8 : Try.prog.cellsOf 35 = 1 := by kernel_rfl
  rw [hc] at hl
  have hx3 : xs.length = 3 := hx
  have f0 : DataW.trod enc Try.prog w base spare held n 35 ((cs.drop 0).take (Try.prog.cellsOf 35)) = xs[0]? := hf 0 _ rfl
  have f1 : DataW.trod enc Try.prog w base spare held n 35 ((cs.drop 1).take (Try.prog.cellsOf 35)) = xs[1]? := hf 1 _ rfl
  have f2 : DataW.trod enc Try.prog w base spare held n 24 ((cs.drop 2).take (Try.prog.cellsOf 24)) = xs[2]? := hf 2 _ rfl
  rw [c8, List.getElem?_eq_getElem (by omega)] at f0 f1
  rw [cf, List.getElem?_eq_getElem (by omega)] at f2
  obtain ⟨a, ea, _, qa⟩ := DataW.trod_int Try.underlying35 f0
  obtain ⟨b, eb, _, qb⟩ := DataW.trod_int Try.underlying35 f1
  obtain ⟨r, er, wr⟩ := trod_float Try.underlying24 f2
  obtain ⟨c0, c1, c2, rfl⟩ : ∃ c0 c1 c2, cs = [c0, c1, c2] := len_three hl
  simp at ea eb er
  subst ea; subst eb; subst er
  simp [Lit.wf, IntKind.min, IntKind.max, IntKind.signed, IntKind.bits] at qa qb
  exact ⟨a, b, r, rfl, by omega, by omega, by simpa [Lit.wf] using wr⟩
end

set_option maxRecDepth 100000 in
theorem open_aquifer {H : Type} {enc : TypeId × Value → H} {W : World} {r : Reach} {b0 base : Nat} {spare : Nat → Bool} {held : Bool} {v : Value} {d : DataW H} {ps : List MemPlace}
    (hv : Value.okWide Try.prog W r b0 34 v) (h : DataW.Trod enc Try.prog W base spare held 34 v d ps) : ∃ T S : Nat, v = .agg #[.float .f32 T, .float .f32 S] ∧ T < 2 ^ 32 ∧ S < 2 ^ 32 := by
  obtain ⟨cs, rfl, _⟩ := okWide_struct Try.underlying34 hv
  obtain ⟨fuel, hf⟩ := h
  obtain ⟨T, S, hg, hfit⟩ := aquifer_cells hf
  refine ⟨T, S, ?_, hfit⟩
  have : cs.toList = [.float .f32 T, .float .f32 S] := by simpa [Value.cells] using hg
  rw [← Array.toArray_toList (xs := cs), this]
set_option maxRecDepth 100000 in
theorem open_well {H : Type} {enc : TypeId × Value → H} {W : World} {r : Reach} {b0 base : Nat} {spare : Nat → Bool} {held : Bool} {v : Value} {d : DataW H} {ps : List MemPlace}
    (hv : Value.okWide Try.prog W r b0 37 v) (h : DataW.Trod enc Try.prog W base spare held 37 v d ps) : ∃ (X Y : Int) (R : Nat), v = .agg #[.int .i8 X, .int .i8 Y, .float .f32 R] ∧ (-128 ≤ X ∧ X ≤ 127) ∧ (-128 ≤ Y ∧ Y ≤ 127) ∧ R < 2 ^ 32 := by
  obtain ⟨cs, rfl, _⟩ := okWide_struct Try.underlying37 hv
  obtain ⟨fuel, hf⟩ := h
  obtain ⟨X, Y, R, hg, hfit⟩ := well_cells hf
  refine ⟨X, Y, R, ?_, hfit⟩
  have : cs.toList = [.int .i8 X, .int .i8 Y, .float .f32 R] := by simpa [Value.cells] using hg
  rw [← Array.toArray_toList (xs := cs), this]
end Go.Proofs.Ytonmdkhfongmhaa
