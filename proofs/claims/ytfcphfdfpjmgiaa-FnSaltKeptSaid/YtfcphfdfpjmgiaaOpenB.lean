/- Bytes that come in as an argument, opened. -/
import Derived.Test.YtfcphfdfpjmgiaaLM2
import Derived.ProofKit
import Derived.OpenShut
import Derived.Deep.Slices
namespace Go.Proofs.Ytfcphfdfpjmgiaa
open Go.ChangeShapes Go.WideShapes Go.ChangeAt Go.RowKit

theorem cells_uno {W : World} {b : Nat} {x : Addr} {cs : List Value} (h : W.cells? b x 1 = some cs) : ∃ c0, cs = [c0] ∧ W.cell? x = some c0 := by
  have e0 : x.add 0 = x := by simp [Addr.add]
  unfold World.cells? at h
  split at h
  · simp [List.range_succ, e0] at h
    cases h0 : W.cell? x with
    | none => simp [h0] at h
    | some c0 =>
      simp [h0] at h
      exact ⟨c0, h.symm, rfl⟩
  · cases h
theorem cell_spot' {W : World} {a : Addr} {v : Value} (h : W.cell? a = some v) : a = ⟨a.block, a.off, none⟩ := by
  unfold World.cell? at h
  split at h
  · split at h
    · cases h
    · rename_i hs
      cases a with
      | mk b o s =>
        cases s with
        | none => rfl
        | some s => simp at hs
  · cases h

set_option maxRecDepth 100000 in
theorem open_bytes {H : Type} {enc : TypeId × Value → H} {W : World} {r : Reach} {b0 base : Nat} {spare : Nat → Bool} {held : Bool} {v : Value} {d : DataW H} {ps : List MemPlace}
    (hv : Value.okWide Try.prog W r b0 22 v) (h : DataW.Trod enc Try.prog W base spare held 22 v d ps) : ∃ n : Nat, BytesAt W v n ∧ n < 9223372036854775808 := by
  obtain ⟨a0, len, cap, rfl⟩ := okWide_slice Try.underlying22 hv
  obtain ⟨fuel, hf⟩ := h
  have hc : Try.prog.cellsOf 5 = 1 := by kernel_rfl
  rcases DataW.trod_slice Try.underlying22 hf with ⟨hcs, _⟩ | ⟨a, len', cap', elems, rest, n, _, hcs, _, hb, hl, hm, hlen, hel, _⟩
  · have e : Value.slice a0 len cap = .slice none 0 0 := by simpa [Value.cells] using hcs
    cases e
    exact ⟨0, ⟨none, 0, rfl, fun j hj => absurd hj (by omega)⟩, by omega⟩
  · have e : Value.slice a0 len cap = .slice (some a) len' cap' := by simpa [Value.cells] using hcs
    cases e
    have key : ∀ i, i < len → ∃ x : Int, W.cell? (a.add i) = some (.int .u8 x) ∧ 0 ≤ x ∧ x ≤ 255 := by
      intro i hi
      have h1 := hel i hi
      rw [hc, List.getElem?_eq_getElem (by omega), Nat.mul_one] at h1
      obtain ⟨cs, h2, h3⟩ := Option.bind_eq_some_iff.1 h1
      obtain ⟨c0, rfl, k0⟩ := cells_uno h2
      obtain ⟨x, ex, _, qx⟩ := DataW.trod_int Try.underlying5 h3
      simp at ex
      subst ex
      simp [Lit.wf, IntKind.min, IntKind.max, IntKind.signed, IntKind.bits] at qx
      exact ⟨x, k0, by omega, by omega⟩
    refine ⟨len, ⟨some a, cap, rfl, fun j hj => ?_⟩, by unfold maxLen at hm; omega⟩
    obtain ⟨x, hx, x0, x1⟩ := key j hj
    obtain ⟨y, hy, _⟩ := key 0 (by omega)
    have ha : a = ⟨a.block, a.off, none⟩ := cell_spot' (by simpa [Addr.add] using hy)
    have hadd : a.add j = ⟨a.block, a.off + j, none⟩ := by
      unfold Addr.add
      split
      · rename_i hk; subst hk; exact ha
      · rfl
    rw [hadd] at hx
    exact ⟨a.block, a.off, x, by rw [← ha], hx, x0, x1⟩
end Go.Proofs.Ytfcphfdfpjmgiaa
