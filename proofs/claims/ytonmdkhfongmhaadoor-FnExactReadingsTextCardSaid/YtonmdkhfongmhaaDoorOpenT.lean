/- A site, lists of readings, of aquifers and of times that come in as arguments, opened. -/
import Derived.Test.YtonmdkhfongmhaaDoorTok
import Derived.Test.YtonmdkhfongmhaaDoorOpenW
import Derived.Deep.Slices
namespace Go.Proofs.YtonmdkhfongmhaaDoor
open Go.ChangeShapes Go.WideShapes Go.ChangeAt Go.RowKit

theorem exists_list {α : Type} {p : Nat → α → Prop} : ∀ n : Nat, (∀ i, i < n → ∃ e, p i e) → ∃ l : List α, l.length = n ∧ ∀ i e, l[i]? = some e → p i e
  | 0, _ => ⟨[], rfl, fun i e h => by simp at h⟩
  | n + 1, h => by
    obtain ⟨l, hl, hp⟩ := exists_list n (fun i hi => h i (by omega))
    obtain ⟨e, he⟩ := h n (by omega)
    refine ⟨l ++ [e], by simp [hl], fun i x hx => ?_⟩
    by_cases hi : i < n
    · rw [List.getElem?_append_left (by omega)] at hx
      exact hp i x hx
    · rw [List.getElem?_append_right (by omega)] at hx
      have : i = n := by
        have := (List.getElem?_eq_some_iff.1 hx).1
        simp at this
        omega
      subst this
      rw [hl, Nat.sub_self] at hx
      cases hx
      exact he
theorem cells_two {W : World} {b : Nat} {x : Addr} {cs : List Value} (h : W.cells? b x 2 = some cs) : ∃ c0 c1, cs = [c0, c1] ∧ W.cell? x = some c0 ∧ W.cell? (x.add 1) = some c1 := by
  have e0 : x.add 0 = x := by simp [Addr.add]
  unfold World.cells? at h
  split at h
  · simp [List.range_succ, e0] at h
    cases h0 : W.cell? x with
    | none => simp [h0] at h
    | some c0 =>
      cases h1 : W.cell? (x.add 1) with
      | none => simp [h0, h1] at h
      | some c1 =>
        simp [h0, h1] at h
        exact ⟨c0, c1, h.symm, rfl, rfl⟩
  · cases h
theorem cells_one {W : World} {b : Nat} {x : Addr} {cs : List Value} (h : W.cells? b x 1 = some cs) : ∃ c0, cs = [c0] ∧ W.cell? x = some c0 := by
  have e0 : x.add 0 = x := by simp [Addr.add]
  unfold World.cells? at h
  split at h
  · simp [List.range_succ, e0] at h
    cases h0 : W.cell? x with
    | none => simp [h0] at h
    | some c0 =>
      simp [h0] at h
      exact ⟨c0, h.symm, rfl⟩
  · cases h
theorem cell_spot {W : World} {a : Addr} {v : Value} (h : W.cell? a = some v) : a = ⟨a.block, a.off, none⟩ := by
  unfold World.cell? at h
  split at h
  · split at h
    · cases h
    · rename_i hs
      cases a with
      | mk b o s =>
        cases s with
        | none => rfl
        | some s => simp at hs
  · cases h
theorem add_spot {a : Addr} (ha : a = ⟨a.block, a.off, none⟩) (k : Nat) : a.add k = ⟨a.block, a.off + k, none⟩ := by
  unfold Addr.add
  split
  · rename_i hk; subst hk; exact ha
  · rfl

section
variable {H : Type} {enc : TypeId × Value → H} {w : World} {base fuel : Nat} {spare : Nat → Bool} {held : Bool} {cs : List Value} {x : DataW H × List MemPlace}
theorem reading_cells (h : DataW.trod enc Tryd.prog w base spare held fuel 34 cs = some x) : ∃ t l : Int, cs = [.int .i64 t, .int .i16 l] ∧ (-9223372036854775808 ≤ t ∧ t ≤ 9223372036854775807) ∧ (-32768 ≤ l ∧ l ≤ 32767) := by
  obtain ⟨xs, n, rfl, rfl, hl, hx, hf⟩ := DataW.trod_struct Tryd.underlying34 h
  have hc : Tryd.prog.cellsOf 34 = 2 := by kernel_rfl
  have c64 : Tryd.prog.cellsOf 2 = 1 := by kernel_rfl
  have c16 : Tryd.prog.cellsOf 30 = 1 := by kernel_rfl
  rw [hc] at hl
  have hx2 : xs.length = 2 := hx
  have f0 : DataW.trod enc Tryd.prog w base spare held n 2 ((cs.drop 0).take (Tryd.prog.cellsOf 2)) = xs[0]? := hf 0 _ rfl
  have f1 : DataW.trod enc Tryd.prog w base spare held n 30 ((cs.drop 1).take (Tryd.prog.cellsOf 30)) = xs[1]? := hf 1 _ rfl
  rw [c64, List.getElem?_eq_getElem (by omega)] at f0
  rw [c16, List.getElem?_eq_getElem (by omega)] at f1
  obtain ⟨a, ea, _, qa⟩ := DataW.trod_int Tryd.underlying2 f0
  obtain ⟨b, eb, _, qb⟩ := DataW.trod_int Tryd.underlying30 f1
  obtain ⟨c0, c1, rfl⟩ : ∃ c0 c1, cs = [c0, c1] := len_two hl
  simp at ea eb
  subst ea; subst eb
  simp [Lit.wf, IntKind.min, IntKind.max, IntKind.signed, IntKind.bits] at qa qb
  exact ⟨a, b, rfl, by omega, by omega⟩
theorem len_five {α : Type} {l : List α} (h : l.length = 5) : ∃ a b c d e, l = [a, b, c, d, e] := by
  rcases l with _ | ⟨a, _ | ⟨b, _ | ⟨c, _ | ⟨d, _ | ⟨e, _ | ⟨f, r⟩⟩⟩⟩⟩⟩
  all_goals first | exact ⟨_, _, _, _, _, rfl⟩ | (simp at h)
end

section
variable {H : Type} {enc : TypeId × Value → H} {W : World} {r : Reach} {b0 base : Nat} {spare : Nat → Bool} {held : Bool} {v : Value} {d : DataW H} {ps : List MemPlace}
set_option maxRecDepth 100000 in
theorem open_readings (hv : Value.okWide Tryd.prog W r b0 22 v) (h : DataW.Trod enc Tryd.prog W base spare held 22 v d ps) : ∃ l : List Rd, RLAt W v l ∧ l.length < 9223372036854775808 := by
  obtain ⟨a0, len, cap, rfl⟩ := okWide_slice Tryd.underlying22 hv
  obtain ⟨fuel, hf⟩ := h
  have hc : Tryd.prog.cellsOf 34 = 2 := by kernel_rfl
  rcases DataW.trod_slice Tryd.underlying22 hf with ⟨hcs, _⟩ | ⟨a, len', cap', elems, rest, n, _, hcs, _, hb, hl, hm, hlen, hel, _⟩
  · have e : Value.slice a0 len cap = .slice none 0 0 := by simpa [Value.cells] using hcs
    cases e
    exact ⟨[], ⟨none, 0, rfl, fun j e he => by simp at he⟩, by simp⟩
  · have e : Value.slice a0 len cap = .slice (some a) len' cap' := by simpa [Value.cells] using hcs
    cases e
    have key : ∀ i, i < len → ∃ e : Rd, e.Rng ∧ W.cell? (a.add (i * 2)) = some (.int .i64 e.t) ∧ W.cell? ((a.add (i * 2)).add 1) = some (.int .i16 e.l) := by
      intro i hi
      have h1 := hel i hi
      rw [hc, List.getElem?_eq_getElem (by omega)] at h1
      obtain ⟨cs, h2, h3⟩ := Option.bind_eq_some_iff.1 h1
      obtain ⟨c0, c1, rfl, k0, k1⟩ := cells_two h2
      obtain ⟨t, l, h4, hX, hY⟩ := reading_cells h3
      simp only [List.cons.injEq, and_true] at h4
      obtain ⟨rfl, rfl⟩ := h4
      exact ⟨⟨t, l⟩, ⟨hX, hY⟩, k0, k1⟩
    obtain ⟨l, hll, hp⟩ := exists_list len key
    refine ⟨l, ⟨some a, cap, by rw [hll], fun j e he => ?_⟩, by unfold maxLen at hm; omega⟩
    obtain ⟨h1, h2, h3⟩ := hp j e he
    have hj : j < len := by have := (List.getElem?_eq_some_iff.1 he).1; omega
    obtain ⟨e0, _, q0, _⟩ := key 0 (by omega)
    have ha : a = ⟨a.block, a.off, none⟩ := cell_spot (by simpa [Addr.add] using q0)
    rw [add_spot ha] at h2 h3
    refine ⟨h1, a.block, a.off, by rw [← ha], fun i v hi => ?_⟩
    match i, hi with
    | 0, hi => cases hi; exact h2
    | 1, hi => cases hi; exact h3
    | i + 2, hi => simp [Rd.cells] at hi

set_option maxRecDepth 100000 in
/-- A list of times, by a function: the slice may begin anywhere in its block. -/
theorem open_times (hv : Value.okWide Tryd.prog W r b0 38 v) (h : DataW.Trod enc Tryd.prog W base spare held 38 v d ps) : ∃ (l : List Int), TsAt W v (fun i => l.getD i 0) l.length ∧ l.length < 9223372036854775808 ∧ ∀ z ∈ l, -9223372036854775808 ≤ z ∧ z ≤ 9223372036854775807 := by
  obtain ⟨a0, len, cap, rfl⟩ := okWide_slice Tryd.underlying38 hv
  obtain ⟨fuel, hf⟩ := h
  have hc : Tryd.prog.cellsOf 2 = 1 := by kernel_rfl
  rcases DataW.trod_slice Tryd.underlying38 hf with ⟨hcs, _⟩ | ⟨a, len', cap', elems, rest, n, _, hcs, _, hb, hl, hm, hlen, hel, _⟩
  · have e : Value.slice a0 len cap = .slice none 0 0 := by simpa [Value.cells] using hcs
    cases e
    exact ⟨[], ⟨none, 0, rfl, fun j hj => by simp at hj⟩, by simp, by simp⟩
  · have e : Value.slice a0 len cap = .slice (some a) len' cap' := by simpa [Value.cells] using hcs
    cases e
    have key : ∀ i, i < len → ∃ e : Int, (-9223372036854775808 ≤ e ∧ e ≤ 9223372036854775807) ∧ W.cell? (a.add i) = some (.int .i64 e) := by
      intro i hi
      have h1 := hel i hi
      rw [hc, Nat.mul_one, List.getElem?_eq_getElem (by omega)] at h1
      obtain ⟨cs, h2, h3⟩ := Option.bind_eq_some_iff.1 h1
      obtain ⟨c0, rfl, k0⟩ := cells_one h2
      obtain ⟨z, ez, _, qz⟩ := DataW.trod_int Tryd.underlying2 h3
      simp only [List.cons.injEq, and_true] at ez
      subst ez
      simp [Lit.wf, IntKind.min, IntKind.max, IntKind.signed, IntKind.bits] at qz
      exact ⟨z, by omega, k0⟩
    obtain ⟨l, hll, hp⟩ := exists_list len key
    refine ⟨l, ⟨some a, cap, by rw [hll], fun j hj => ?_⟩, by unfold maxLen at hm; omega, fun z hz => ?_⟩
    · obtain ⟨h1, h2⟩ := hp j _ (List.getElem?_eq_getElem hj)
      obtain ⟨e0, _, q0⟩ := key 0 (by omega)
      have ha : a = ⟨a.block, a.off, none⟩ := cell_spot (by simpa [Addr.add] using q0)
      rw [add_spot ha] at h2
      refine ⟨a.block, a.off, by rw [← ha], ?_⟩
      rw [h2]
      simp [List.getD, hj]
    · obtain ⟨j, hj⟩ := List.getElem?_of_mem hz
      exact (hp j z hj).1
end
end Go.Proofs.YtonmdkhfongmhaaDoor
