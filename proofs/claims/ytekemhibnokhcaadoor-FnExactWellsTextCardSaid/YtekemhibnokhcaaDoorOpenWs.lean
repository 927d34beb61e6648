/- A list of wells that comes in as an argument, opened. -/
import Derived.Test.YtekemhibnokhcaaDoorWlist
import Derived.Test.YtekemhibnokhcaaDoorOpenW
import Derived.Deep.Slices
namespace Go.Proofs.YtekemhibnokhcaaDoor
open Go.ChangeShapes Go.WideShapes Go.ChangeAt Go.RowKit

theorem exists_list {α : Type} {p : Nat → α → Prop} : ∀ n : Nat, (∀ i, i < n → ∃ e, p i e) → ∃ l : List α, l.length = n ∧ ∀ i e, l[i]? = some e → p i e
  | 0, _ => ⟨[], rfl, fun i e h => by simp at h⟩
  | n + 1, h => by
    obtain ⟨l, hl, hp⟩ := exists_list n (fun i hi => h i (by omega))
    obtain ⟨e, he⟩ := h n (by omega)
    refine ⟨l ++ [e], by simp [hl], fun i x hx => ?_⟩
    by_cases hi : i < n
    · rw [List.getElem?_append_left (by omega)] at hx
      exact hp i x hx
    · rw [List.getElem?_append_right (by omega)] at hx
      have : i = n := by
        have := (List.getElem?_eq_some_iff.1 hx).1
        simp at this
        omega
      subst this
      rw [hl, Nat.sub_self] at hx
      cases hx
      exact he

theorem cells_three {W : World} {b : Nat} {x : Addr} {cs : List Value} (h : W.cells? b x 3 = some cs) : ∃ c0 c1 c2, cs = [c0, c1, c2] ∧ W.cell? x = some c0 ∧ W.cell? (x.add 1) = some c1 ∧ W.cell? (x.add 2) = some c2 := by
  have e0 : x.add 0 = x := by simp [Addr.add]
  unfold World.cells? at h
  split at h
  · simp [List.range_succ, e0] at h
    cases h0 : W.cell? x with
    | none => simp [h0] at h
    | some c0 =>
      cases h1 : W.cell? (x.add 1) with
      | none => simp [h0, h1] at h
      | some c1 =>
        cases h2 : W.cell? (x.add 2) with
        | none => simp [h0, h1, h2] at h
        | some c2 =>
          simp [h0, h1, h2] at h
          exact ⟨c0, c1, c2, h.symm, rfl, rfl, rfl⟩
  · cases h
theorem cell_spot {W : World} {a : Addr} {v : Value} (h : W.cell? a = some v) : a = ⟨a.block, a.off, none⟩ := by
  unfold World.cell? at h
  split at h
  · split at h
    · cases h
    · rename_i hs
      cases a with
      | mk b o s =>
        cases s with
        | none => rfl
        | some s => simp at hs
  · cases h

set_option maxRecDepth 100000 in
theorem open_wells {H : Type} {enc : TypeId × Value → H} {W : World} {r : Reach} {b0 base : Nat} {spare : Nat → Bool} {held : Bool} {v : Value} {d : DataW H} {ps : List MemPlace}
    (hv : Value.okWide Tryd.prog W r b0 22 v) (h : DataW.Trod enc Tryd.prog W base spare held 22 v d ps) : ∃ l : List We, LAt W v l ∧ l.length < 9223372036854775808 := by
  obtain ⟨a0, len, cap, rfl⟩ := okWide_slice Tryd.underlying22 hv
  obtain ⟨fuel, hf⟩ := h
  have hc : Tryd.prog.cellsOf 45 = 3 := by kernel_rfl
  rcases DataW.trod_slice Tryd.underlying22 hf with ⟨hcs, _⟩ | ⟨a, len', cap', elems, rest, n, _, hcs, _, hb, hl, hm, hlen, hel, _⟩
  · have e : Value.slice a0 len cap = .slice none 0 0 := by simpa [Value.cells] using hcs
    cases e
    exact ⟨[], ⟨none, 0, rfl, fun j e he => by simp at he⟩, by simp⟩
  · have e : Value.slice a0 len cap = .slice (some a) len' cap' := by simpa [Value.cells] using hcs
    cases e
    have key : ∀ i, i < len → ∃ e : We, e.Rng ∧ W.cell? (a.add (i * 3)) = some (.int .i8 e.x) ∧ W.cell? ((a.add (i * 3)).add 1) = some (.int .i8 e.y) ∧ W.cell? ((a.add (i * 3)).add 2) = some (.float .f32 e.r) := by
      intro i hi
      have h1 := hel i hi
      rw [hc, List.getElem?_eq_getElem (by omega)] at h1
      obtain ⟨cs, h2, h3⟩ := Option.bind_eq_some_iff.1 h1
      obtain ⟨c0, c1, c2, rfl, k0, k1, k2⟩ := cells_three h2
      obtain ⟨X, Y, R, h4, hX, hY, _⟩ := well_cells h3
      simp only [List.cons.injEq, and_true] at h4
      obtain ⟨rfl, rfl, rfl⟩ := h4
      exact ⟨⟨X, Y, R⟩, ⟨hX, hY⟩, k0, k1, k2⟩
    obtain ⟨l, hll, hp⟩ := exists_list len key
    refine ⟨l, ⟨some a, cap, by rw [hll], fun j e he => ?_⟩, by unfold maxLen at hm; omega⟩
    obtain ⟨h1, h2, h3, h4⟩ := hp j e he
    have hj : j < len := by have := (List.getElem?_eq_some_iff.1 he).1; omega
    obtain ⟨e0, _, q0, _⟩ := key 0 (by omega)
    have ha : a = ⟨a.block, a.off, none⟩ := cell_spot (by simpa [Addr.add] using q0)
    have hadd : ∀ k : Nat, a.add k = ⟨a.block, a.off + k, none⟩ := fun k => by
      unfold Addr.add
      split
      · rename_i hk; subst hk; exact ha
      · rfl
    refine ⟨h1, a.block, a.off, by rw [← ha], fun i v hi => ?_⟩
    rw [hadd] at h2 h3 h4
    match i, hi with
    | 0, hi => cases hi; exact h2
    | 1, hi => cases hi; exact h3
    | 2, hi => cases hi; exact h4
    | i + 3, hi => simp [We.cells] at hi
end Go.Proofs.YtekemhibnokhcaaDoor
