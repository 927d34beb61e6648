/- The path of the water on a drawn ground: it falls, and ends where nothing flows on. -/
import Derived.Test.YtfcphfdfpjmgiaaLM2
import Derived.Test.YtfcphfdfpjmgiaaWater
namespace Go.Proofs.Ytfcphfdfpjmgiaa
open Go.RowKit

/-- Where no side has been found nothing flows. -/
theorem topTo_none {m : M} {k : Nat} : ∀ s, (topTo m k s).1 = none → (topTo m k s).2 = some 0 ∧ ∀ t, t < s → fgt (flow m k t) (some 0) = false
  | 0, _ => ⟨rfl, fun t ht => absurd ht (by omega)⟩
  | s + 1, h => by
    cases hc : fgt (flow m k s) (topTo m k s).2
    · rw [topTo_no hc] at h ⊢
      obtain ⟨h1, h2⟩ := topTo_none s h
      refine ⟨h1, fun t ht => ?_⟩
      by_cases e : t = s
      · subst e; rw [h1] at hc; exact hc
      · exact h2 t (by omega)
    · rw [topTo_yes hc] at h
      cases h
/-- The next cell has a lesser head. -/
theorem next_low {m : M} (N : Nums m) (ho : okI m = true) {k n : Nat} (hk : IsCell m k) (h : nextI m k 4 = n) : IsCell m n ∧ N.h n < N.h k := by
  unfold nextI at h
  cases ht : (topTo m k 4).1 with
  | none => rw [ht] at h; exfalso; have h' : (-1 : Int) = n := h; omega
  | some t =>
    rw [ht] at h
    have hb : beside m.wide m.high k t = n := h
    have hn := beside_cell (sized_of ho) hk.1 hb
    refine ⟨hn, ?_⟩
    obtain ⟨_, hg⟩ := top_some 4 ht
    obtain ⟨v, hv, hv0⟩ := top_val ho hk.1 hk.2 (flow_val ho hk.1 hk.2) t
    obtain ⟨r, h1, _, h3, _⟩ := N.rvf hk hn hb
    have hv' : RV (topTo m k t).2 ((v : Rat) / uQ) := ⟨v, hv, Rat.div_mul_cancel (by have := uQ_pos; grind)⟩
    rw [h1.gt hv'] at hg
    have hg := of_decide_eq_true hg
    have h0 : (0 : Rat) ≤ (v : Rat) / uQ := (q_le (v := 0) (by rw [Rat.zero_mul]; rfl) (Rat.div_mul_cancel (by have := uQ_pos; grind))).2 hv0
    rcases Int.lt_or_le (N.h n) (N.h k) with hc | hc
    · exact hc
    · have := h3 (by omega)
      exfalso
      grind
/-- Heads fall along a list. -/
def Falls (f : Nat → Int) (l : List Nat) : Prop := ∀ i a c, l[i]? = some a → l[i + 1]? = some c → f c < f a
theorem falls_all {f : Nat → Int} {l : List Nat} (h : Falls f l) : ∀ (d i : Nat) (a c : Nat), l[i]? = some a → l[i + d + 1]? = some c → f c < f a
  | 0, i, a, c, h1, h2 => h i a c h1 h2
  | d + 1, i, a, c, h1, h2 => by
    have hlt := (List.getElem?_eq_some_iff.1 h2).1
    obtain ⟨x, hx⟩ : ∃ x, l[i + d + 1]? = some x := ⟨_, List.getElem?_eq_getElem (by omega)⟩
    have h3 := falls_all h d i a x h1 hx
    have h4 := h (i + d + 1) x c hx (by rw [show i + d + 1 + 1 = i + (d + 1) + 1 by omega]; exact h2)
    omega
theorem falls_snoc {f : Nat → Int} {l : List Nat} {p x : Nat} (h : Falls f l) (hl : l.getLast? = some p) (hx : f x < f p) : Falls f (l ++ [x]) := by
  intro i a c h1 h2
  have hn : l ≠ [] := by intro e; rw [e] at hl; cases hl
  have hp : 0 < l.length := List.length_pos_iff.2 hn
  have hlt := (List.getElem?_eq_some_iff.1 h2).1
  rw [List.length_append, List.length_singleton] at hlt
  rw [List.getLast?_eq_getElem?] at hl
  rw [List.getElem?_append_left (by omega)] at h1
  by_cases e : i + 1 = l.length
  · rw [List.getElem?_append_right (by omega), e, Nat.sub_self] at h2
    have hc : x = c := by simpa using h2
    rw [show l.length - 1 = i by omega, h1] at hl
    have : a = p := by simpa using hl
    rw [← hc, this]; exact hx
  · rw [List.getElem?_append_left (by omega)] at h2
    exact h i a c h1 h2
theorem last_least {f : Nat → Int} {l : List Nat} {p x : Nat} (h : Falls f l) (hl : l.getLast? = some p) (hx : x ∈ l) : f p ≤ f x := by
  obtain ⟨i, hi⟩ := List.getElem?_of_mem hx
  have hlt := (List.getElem?_eq_some_iff.1 hi).1
  rw [List.getLast?_eq_getElem?] at hl
  by_cases e : i = l.length - 1
  · rw [e, hl] at hi
    have : p = x := by simpa using hi
    rw [this]; exact Int.le_refl _
  · have := falls_all h (l.length - 1 - i - 1) i x p hi (by rw [show i + (l.length - 1 - i - 1) + 1 = l.length - 1 by omega]; exact hl)
    omega
theorem next_cases {m : M} (ho : okI m = true) {k : Nat} (hk : IsCell m k) : nextI m k 4 = -1 ∨ ∃ n : Nat, nextI m k 4 = n := by
  unfold nextI
  cases ht : (topTo m k 4).1 with
  | none => exact .inl rfl
  | some t =>
    obtain ⟨_, hg⟩ := top_some 4 ht
    have := top_beside ho hk.1 hk.2 hg
    exact .inr ⟨(beside m.wide m.high k t).toNat, by show beside m.wide m.high k t = _; omega⟩
/-- The path goes on from a list that falls. -/
theorem way_falls {m : M} (N : Nums m) (ho : okI m = true) : ∀ (n : Nat) (l : List Nat) (p : Nat), l.getLast? = some p → Falls N.h l → (∀ x ∈ l, IsCell m x) →
    ∃ q, (way m n l (nextI m p 4)).getLast? = some q ∧ Falls N.h (way m n l (nextI m p 4)) ∧ (∀ x ∈ way m n l (nextI m p 4), IsCell m x) ∧ (nextI m q 4 = -1 ∨ (way m n l (nextI m p 4)).length = l.length + n) ∧ ∀ (i c : Nat), l[i]? = some c → (way m n l (nextI m p 4))[i]? = some c
  | 0, l, p, h1, h2, h3 => ⟨p, h1, h2, h3, .inr rfl, fun _ _ h => h⟩
  | n + 1, l, p, h1, h2, h3 => by
    have hp : IsCell m p := h3 p (List.mem_of_getLast? h1)
    rcases next_cases ho hp with h4 | ⟨x, h4⟩
    · rw [h4, way_end]
      exact ⟨p, h1, h2, h3, .inl h4, fun _ _ h => h⟩
    · obtain ⟨hx, hlt⟩ := next_low N ho hp h4
      have hni : x ∉ l := fun hm => by have := last_least h2 h1 hm; omega
      rw [h4, way_step hni]
      obtain ⟨q, k1, k2, k3, k4, k5⟩ := way_falls N ho n (l ++ [x]) x (by simp) (falls_snoc h2 h1 hlt) (fun y hy => by rcases List.mem_append.1 hy with h | h; exact h3 y h; rw [List.mem_singleton.1 h]; exact hx)
      refine ⟨q, k1, k2, k3, ?_, fun i c hi => k5 i c ?_⟩
      · rcases k4 with k4 | k4
        · exact .inl k4
        · refine .inr ?_
          rw [k4, List.length_append, List.length_singleton]; omega
      · have := (List.getElem?_eq_some_iff.1 hi).1
        rw [List.getElem?_append_left this]; exact hi

/-- The path as a whole. -/
theorem path_facts {m : M} (N : Nums m) (ho : okI m = true) {c : Nat} (hc : IsCell m c) :
    IsCell m (lastC m c) ∧ Falls N.h (pathOf m c) ∧ (∀ x ∈ pathOf m c, IsCell m x) ∧ (∀ t, t < 4 → fgt (flow m (lastC m c) t) (some 0) = false) ∧ (pathOf m c)[0]? = some c := by
  have e : pathOf m c = way m 64 [c] (nextI m c 4) := by
    show way m 65 [] c = _
    rw [way_step (by simp)]; rfl
  obtain ⟨q, h1, h2, h3, h4, h5⟩ := way_falls N ho 64 [c] c rfl (fun i a d _ h2 => by simp at h2) (fun x hx => by rw [List.mem_singleton.1 hx]; exact hc)
  rw [← e] at h1 h2 h3 h4 h5
  have hq : lastC m c = q := by unfold lastC; rw [List.getLastD_eq_getLast?, h1]; rfl
  rw [hq]
  have hqc : IsCell m q := h3 q (List.mem_of_getLast? h1)
  have hnext : nextI m q 4 = -1 := by
    rcases h4 with h | h
    · exact h
    · have := path_len ho hc.1 hc.2
      simp at h
      omega
  refine ⟨hqc, h2, h3, ?_, h5 0 c rfl⟩
  have hnone : (topTo m q 4).1 = none := by
    cases ht : (topTo m q 4).1 with
    | none => rfl
    | some t =>
      exfalso
      unfold nextI at hnext
      rw [ht] at hnext
      obtain ⟨_, hg⟩ := top_some 4 ht
      have := top_beside ho hqc.1 hqc.2 hg
      have h' : beside m.wide m.high q t = -1 := hnext
      omega
  exact (topTo_none 4 hnone).2
/-- The bits of a list are told by its members. -/
theorem been_ext {l s : List Nat} (h : ∀ k, k ∈ l ↔ k ∈ s) : beenN l = beenN s := by
  apply Nat.eq_of_testBit_eq
  intro i
  rw [beenN_bit, beenN_bit]
  exact decide_eq_decide.2 (h i)
theorem bitsL_ext {l s : List Nat} (hl : ∀ c ∈ l, c < 64) (h : ∀ k, k ∈ l ↔ k ∈ s) : bitsL l = bitsL s := by
  rw [bitsL_been hl, bitsL_been (fun c hc => hl c ((h c).2 hc)), been_ext h]
theorem bitsL_or {l s t : List Nat} (hl : ∀ c ∈ l, c < 64) (hs : ∀ c ∈ s, c < 64) (h : ∀ k, k ∈ t ↔ k ∈ l ∨ k ∈ s) : bits BinOp.or IntKind.u64 (bitsL l) (bitsL s) = bitsL t := by
  have ht : ∀ c ∈ t, c < 64 := fun c hc => by rcases (h c).1 hc with h | h; exact hl c h; exact hs c h
  rw [bitsL_been hl, bitsL_been hs, bitsL_been ht, u64_or_nat _ _ (beenN_lt hl) (beenN_lt hs)]
  have : beenN l ||| beenN s = beenN t := by
    apply Nat.eq_of_testBit_eq
    intro i
    rw [Nat.testBit_or, beenN_bit, beenN_bit, beenN_bit, ← Bool.decide_or]
    exact decide_eq_decide.2 (h i).symm
  rw [this]
theorem bitsL_apart {l s : List Nat} (hl : ∀ c ∈ l, c < 64) (hs : ∀ c ∈ s, c < 64) (h : ∀ k, k ∈ l → k ∉ s) : bits BinOp.and IntKind.u64 (bitsL l) (bitsL s) = 0 := by
  rw [bitsL_been hl, bitsL_been hs, u64_and_nat _ _ (beenN_lt hl) (beenN_lt hs)]
  have : beenN l &&& beenN s = 0 := by
    apply Nat.eq_of_testBit_eq
    intro i
    rw [Nat.zero_testBit, Nat.testBit_and, beenN_bit, beenN_bit]
    by_cases hi : i ∈ l
    · simp [h i hi]
    · simp [hi]
  rw [this]; rfl
/-- The cells whose paths end below k. -/
def doneL (m : M) (k : Nat) : List Nat := (cellsM m).filter fun c => decide (lastC m c < k)
def basinL (m : M) (k : Nat) : List Nat := (cellsM m).filter (basP m k)
theorem mem_done {m : M} {k c : Nat} : c ∈ doneL m k ↔ c ∈ cellsM m ∧ lastC m c < k := by unfold doneL; rw [List.mem_filter]; simp
theorem mem_basin {m : M} {k c : Nat} : c ∈ basinL m k ↔ c ∈ cellsM m ∧ lastC m c = k := by unfold basinL basP; rw [List.mem_filter]; simp
theorem mem_cells {m : M} {c : Nat} : c ∈ cellsM m ↔ IsCell m c := cellsTo_iff
theorem done_lt {m : M} {k c : Nat} (h : c ∈ doneL m k) : c < 64 := cells64 (mem_done.1 h).1
theorem basin_lt {m : M} {k c : Nat} (h : c ∈ basinL m k) : c < 64 := cells64 (mem_basin.1 h).1
theorem done_zero (m : M) : bitsL (doneL m 0) = 0 := by
  have : doneL m 0 = [] := List.eq_nil_iff_forall_not_mem.2 fun c hc => by have := (mem_done.1 hc).2; omega
  rw [this]; rfl
theorem done_skip {m : M} (N : Nums m) (ho : okI m = true) {k : Nat} (hk : ¬ IsCell m k) : bitsL (doneL m (k + 1)) = bitsL (doneL m k) := by
  refine bitsL_ext (fun c hc => done_lt hc) fun c => ?_
  rw [mem_done, mem_done]
  constructor
  · rintro ⟨h1, h2⟩
    refine ⟨h1, ?_⟩
    have : lastC m c ≠ k := fun e => hk (e ▸ (path_facts N ho (mem_cells.1 h1)).1)
    omega
  · rintro ⟨h1, h2⟩; exact ⟨h1, by omega⟩
theorem done_more (m : M) (k : Nat) : bits BinOp.or IntKind.u64 (bitsL (doneL m k)) (bitsL (basinL m k)) = bitsL (doneL m (k + 1)) := by
  refine bitsL_or (fun c hc => done_lt hc) (fun c hc => basin_lt hc) fun c => ?_
  rw [mem_done, mem_done, mem_basin]
  constructor
  · rintro ⟨h1, h2⟩
    by_cases e : lastC m c = k
    · exact .inr ⟨h1, e⟩
    · exact .inl ⟨h1, by omega⟩
  · rintro (⟨h1, h2⟩ | ⟨h1, h2⟩)
    · exact ⟨h1, by omega⟩
    · exact ⟨h1, by omega⟩
theorem done_apart (m : M) (k : Nat) : bits BinOp.and IntKind.u64 (bitsL (doneL m k)) (bitsL (basinL m k)) = 0 := by
  refine bitsL_apart (fun c hc => done_lt hc) (fun c hc => basin_lt hc) fun c h1 h2 => ?_
  have := (mem_done.1 h1).2
  have := (mem_basin.1 h2).2
  omega
theorem done_all {m : M} (N : Nums m) (ho : okI m = true) : bitsL (doneL m 64) = bitsL (cellsM m) := by
  refine bitsL_ext (fun c hc => done_lt hc) fun c => ?_
  rw [mem_done]
  exact ⟨fun h => h.1, fun h => ⟨h, (path_facts N ho (mem_cells.1 h)).1.1⟩⟩
end Go.Proofs.Ytfcphfdfpjmgiaa
