/- The cells that are fed: sweeps over all cells, sides in order; when they rest. -/
import Derived.Test.YtfcphfdfpjmgiaaLM2
namespace Go.Proofs.Ytfcphfdfpjmgiaa
open Go.RowKit

/-- Whether water can go from a cell to a side. -/
def edge (m : M) (k s : Nat) : Bool := decide (0 ≤ beside m.wide m.high k s) && fgt (joint (m.c k) (m.c (beside m.wide m.high k s).toNat)) (some 0)
def fst1 (m : M) (k s x : Nat) : Nat := if x.testBit k && edge m k s then x ||| 2 ^ (beside m.wide m.high k s).toNat else x
def fsd (m : M) (k x : Nat) : Nat → Nat
  | 0 => x
  | s + 1 => fst1 m k s (fsd m k x s)
def frd (m : M) (l : List Nat) (x : Nat) : Nat := l.foldl (fun x k => fsd m k x 4) x
def fed (m : M) (x : Nat) : Nat → Nat
  | 0 => x
  | j + 1 => frd m (cellsM m) (fed m x j)
theorem frd_snoc (m : M) (l : List Nat) (k x : Nat) : frd m (l ++ [k]) x = fsd m k (frd m l x) 4 := by simp [frd]

/-- All bits of one are bits of the other. -/
def Sub (x y : Nat) : Prop := ∀ j, x.testBit j = true → y.testBit j = true
theorem Sub.refl (x : Nat) : Sub x x := fun _ h => h
theorem Sub.trans {x y z : Nat} (h : Sub x y) (h' : Sub y z) : Sub x z := fun j hj => h' j (h j hj)
theorem Sub.anti {x y : Nat} (h : Sub x y) (h' : Sub y x) : x = y := by
  apply Nat.eq_of_testBit_eq
  intro i
  have h1 := h i
  have h2 := h' i
  cases e : x.testBit i <;> cases e' : y.testBit i <;> simp_all
theorem or_bit (x n j : Nat) : (x ||| 2 ^ n).testBit j = (x.testBit j || decide (n = j)) := by rw [Nat.testBit_or, Nat.testBit_two_pow]
theorem sub_or (x n : Nat) : Sub x (x ||| 2 ^ n) := fun j hj => by rw [or_bit, hj]; rfl
theorem or_same {x n : Nat} (h : x.testBit n = true) : x ||| 2 ^ n = x := by
  apply Nat.eq_of_testBit_eq
  intro i
  rw [or_bit]
  by_cases e : n = i
  · subst e; rw [h]; rfl
  · rw [decide_eq_false e, Bool.or_false]
theorem fst_sub (m : M) (k s x : Nat) : Sub x (fst1 m k s x) := by
  unfold fst1
  split
  · exact sub_or _ _
  · exact Sub.refl _
theorem fsd_sub (m : M) (k x : Nat) : ∀ s, Sub x (fsd m k x s)
  | 0 => Sub.refl _
  | s + 1 => (fsd_sub m k x s).trans (fst_sub _ _ _ _)
theorem frd_sub (m : M) : ∀ (l : List Nat) (x : Nat), Sub x (frd m l x)
  | [], _ => Sub.refl _
  | k :: l, x => (fsd_sub m k x 4).trans (frd_sub m l _)
theorem fsd_no {m : M} {k x : Nat} (h : x.testBit k = false) : ∀ s, fsd m k x s = x
  | 0 => rfl
  | s + 1 => by
    show fst1 m k s (fsd m k x s) = x
    rw [fsd_no h s]
    unfold fst1
    rw [h, Bool.false_and]; rfl

/-! What holds of all bits. -/
theorem fst_keep {m : M} {P : Nat → Prop} (hP : ∀ k s, P k → edge m k s = true → P (beside m.wide m.high k s).toNat) {k s x : Nat} (h : ∀ j, x.testBit j = true → P j) : ∀ j, (fst1 m k s x).testBit j = true → P j := by
  intro j hj
  unfold fst1 at hj
  split at hj
  · rename_i hc
    rw [Bool.and_eq_true] at hc
    rw [or_bit, Bool.or_eq_true] at hj
    rcases hj with hj | hj
    · exact h j hj
    · rw [← of_decide_eq_true hj]
      exact hP k s (h k hc.1) hc.2
  · exact h j hj
theorem fsd_keep {m : M} {P : Nat → Prop} (hP : ∀ k s, P k → edge m k s = true → P (beside m.wide m.high k s).toNat) {k x : Nat} (h : ∀ j, x.testBit j = true → P j) : ∀ s, ∀ j, (fsd m k x s).testBit j = true → P j
  | 0 => h
  | s + 1 => fst_keep hP (fsd_keep hP h s)
theorem frd_keep {m : M} {P : Nat → Prop} (hP : ∀ k s, P k → edge m k s = true → P (beside m.wide m.high k s).toNat) : ∀ (l : List Nat) {x : Nat}, (∀ j, x.testBit j = true → P j) → ∀ j, (frd m l x).testBit j = true → P j
  | [], _, h => h
  | _ :: l, _, h => frd_keep hP l (fsd_keep hP h 4)
theorem fed_keep {m : M} {P : Nat → Prop} (hP : ∀ k s, P k → edge m k s = true → P (beside m.wide m.high k s).toNat) {x : Nat} (h : ∀ j, x.testBit j = true → P j) : ∀ i, ∀ j, (fed m x i).testBit j = true → P j
  | 0 => h
  | i + 1 => frd_keep hP _ (fed_keep hP h i)

/-! Every bit is one of the first ones, or is beside another one. -/
def Came (m : M) (x0 y : Nat) : Prop := ∀ j, y.testBit j = true → x0.testBit j = true ∨ ∃ k s, s < 4 ∧ y.testBit k = true ∧ edge m k s = true ∧ (beside m.wide m.high k s).toNat = j
theorem fst_came {m : M} {x0 y k s : Nat} (hs : s < 4) (h : Came m x0 y) : Came m x0 (fst1 m k s y) := by
  intro j hj
  unfold fst1 at hj ⊢
  split at hj
  · rename_i hc
    rw [if_pos hc]
    rw [Bool.and_eq_true] at hc
    rw [or_bit, Bool.or_eq_true] at hj
    rcases hj with hj | hj
    · rcases h j hj with h1 | ⟨k', s', h0, h1, h2, h3⟩
      · exact .inl h1
      · exact .inr ⟨k', s', h0, sub_or _ _ _ h1, h2, h3⟩
    · exact .inr ⟨k, s, hs, sub_or _ _ _ hc.1, hc.2, of_decide_eq_true hj⟩
  · rename_i hc
    rw [if_neg hc]
    exact h j hj
theorem fsd_came {m : M} {x0 y k : Nat} (h : Came m x0 y) : ∀ s, s ≤ 4 → Came m x0 (fsd m k y s)
  | 0, _ => h
  | s + 1, hs => fst_came (by omega) (fsd_came h s (by omega))
theorem frd_came {m : M} {x0 : Nat} : ∀ (l : List Nat) {y : Nat}, Came m x0 y → Came m x0 (frd m l y)
  | [], _, h => h
  | _ :: l, _, h => frd_came l (fsd_came h 4 (by omega))
theorem fed_came (m : M) (x0 : Nat) : ∀ i, Came m x0 (fed m x0 i)
  | 0 => fun _ h => .inl h
  | i + 1 => frd_came _ (fed_came m x0 i)
theorem fed_sub (m : M) (x : Nat) : ∀ i, Sub x (fed m x i)
  | 0 => Sub.refl _
  | i + 1 => (fed_sub m x i).trans (frd_sub _ _ _)

/-! A round that changes nothing: closed. -/
theorem fsd_rest {m : M} {k x : Nat} : ∀ n, fsd m k x n = x → ∀ s, s < n → x.testBit k = true → edge m k s = true → x.testBit (beside m.wide m.high k s).toNat = true
  | 0, _, s, hs, _, _ => absurd hs (by omega)
  | n + 1, h, s, hs, hk, he => by
    have h : fst1 m k n (fsd m k x n) = x := h
    have h1 : fsd m k x n = x := Sub.anti (fun j hj => by have := fst_sub m k n _ j hj; rwa [h] at this) (fsd_sub m k x n)
    by_cases e : s = n
    · subst e
      rw [h1] at h
      unfold fst1 at h
      rw [hk, he, Bool.true_and, if_pos rfl] at h
      rw [← h, or_bit, decide_eq_true rfl, Bool.or_true]
    · exact fsd_rest n h1 s (by omega) hk he
theorem frd_rest {m : M} {x : Nat} : ∀ l : List Nat, frd m l x = x → ∀ k ∈ l, fsd m k x 4 = x
  | [], _, k, hk => by cases hk
  | c :: l, h, k, hk => by
    have h : frd m l (fsd m c x 4) = x := h
    have h1 : fsd m c x 4 = x := Sub.anti (fun j hj => by have := frd_sub m l _ j hj; rwa [h] at this) (fsd_sub m c x 4)
    rcases List.mem_cons.1 hk with e | e
    · rw [e]; exact h1
    · rw [h1] at h; exact frd_rest l h k e
theorem fed_rest {m : M} {x : Nat} {j : Nat} (h : fed m x (j + 1) = fed m x j) : ∀ i, fed m x (j + i) = fed m x j
  | 0 => rfl
  | i + 1 => by
    show frd m (cellsM m) (fed m x (j + i)) = _
    rw [fed_rest h i]; exact h

/-! How many bits there are. -/
def cnt (x : Nat) : Nat := (List.range 64).countP (fun j => x.testBit j)
theorem cnt_le (x : Nat) : cnt x ≤ 64 := by
  have := List.countP_le_length (p := fun j => x.testBit j) (l := List.range 64)
  rwa [List.length_range] at this
theorem countP_lt {p q : Nat → Bool} : ∀ {l : List Nat}, (∀ j, p j = true → q j = true) → (∃ j ∈ l, q j = true ∧ p j = false) → l.countP p < l.countP q
  | [], _, h => by obtain ⟨_, h, _⟩ := h; cases h
  | c :: l, h, ⟨j, hj, h1, h2⟩ => by
    have hle : l.countP p ≤ l.countP q := List.countP_mono_left (fun x _ hx => h x hx)
    rw [List.countP_cons, List.countP_cons]
    rcases List.mem_cons.1 hj with e | e
    · subst e
      rw [h1, h2]
      simp only [if_true, Bool.false_eq_true, if_false]
      omega
    · have := countP_lt (p := p) (q := q) (l := l) h ⟨j, e, h1, h2⟩
      have h3 := h c
      cases e1 : p c <;> cases e2 : q c <;> simp_all <;> omega
theorem cnt_lt {x y : Nat} (h : Sub x y) (hne : x ≠ y) (hy : ∀ j, y.testBit j = true → j < 64) : cnt x < cnt y := by
  refine countP_lt h ?_
  have : ∃ j, y.testBit j = true ∧ x.testBit j = false := by
    by_cases hh : ∃ j, y.testBit j = true ∧ x.testBit j = false
    · exact hh
    · exfalso
      refine hne (Sub.anti h fun j hj => ?_)
      cases e : x.testBit j
      · exact absurd ⟨j, hj, e⟩ hh
      · rfl
  obtain ⟨j, h1, h2⟩ := this
  exact ⟨j, List.mem_range.2 (hy j h1), h1, h2⟩

/-- Bits of cells alone. -/
def InC (m : M) (x : Nat) : Prop := ∀ j, x.testBit j = true → j < 64 ∧ hasB m.wide m.high j = true
theorem edge_cell {m : M} (h : sized m) {k s : Nat} (hk : k < 64) (he : edge m k s = true) : (beside m.wide m.high k s).toNat < 64 ∧ hasB m.wide m.high (beside m.wide m.high k s).toNat = true := by
  unfold edge at he
  rw [Bool.and_eq_true] at he
  have h0 := of_decide_eq_true he.1
  exact beside_has (s := s) hk h.1.2 h.2.2 (n := (beside m.wide m.high k s).toNat) (by omega)
theorem fed_in {m : M} (h : sized m) {x : Nat} (hx : InC m x) (i : Nat) : InC m (fed m x i) :=
  fed_keep (P := fun j => j < 64 ∧ hasB m.wide m.high j = true) (fun _ _ hk he => edge_cell h hk.1 he) hx i
theorem fed_grow {m : M} (h : sized m) {x : Nat} (hx : InC m x) (h0 : x ≠ 0) : ∀ j, j + 1 ≤ cnt (fed m x j) ∨ ∃ i, i < j ∧ fed m x (i + 1) = fed m x i
  | 0 => by
    left
    have : cnt 0 < cnt x := cnt_lt (fun j hj => by rw [Nat.zero_testBit] at hj; cases hj) (fun e => h0 e.symm) (fun j hj => (hx j hj).1)
    show 0 + 1 ≤ cnt x
    omega
  | j + 1 => by
    rcases fed_grow h hx h0 j with h1 | ⟨i, hi, he⟩
    · by_cases e : fed m x (j + 1) = fed m x j
      · exact .inr ⟨j, by omega, e⟩
      · left
        have := cnt_lt (x := fed m x j) (y := fed m x (j + 1)) (frd_sub _ _ _) (fun h => e h.symm) (fun i hi => (fed_in h hx (j + 1) i hi).1)
        omega
    · exact .inr ⟨i, by omega, he⟩
theorem fed_still {m : M} (h : sized m) {x : Nat} (hx : InC m x) (h0 : x ≠ 0) : fed m x 65 = fed m x 64 := by
  rcases fed_grow h hx h0 64 with h1 | ⟨i, hi, he⟩
  · have := cnt_le (fed m x 64); omega
  · have h1 := fed_rest he (65 - i)
    have h2 := fed_rest he (64 - i)
    rw [show i + (65 - i) = 65 by omega] at h1
    rw [show i + (64 - i) = 64 by omega] at h2
    rw [h1, h2]
theorem fed_at {m : M} (h : sized m) {x : Nat} (hx : InC m x) (h0 : x ≠ 0) {j : Nat} (hj : fed m x (j + 1) = fed m x j) : fed m x j = fed m x 64 := by
  by_cases hl : j ≤ 64
  · have := fed_rest hj (64 - j)
    rw [show j + (64 - j) = 64 by omega] at this
    exact this.symm
  · have := fed_rest (fed_still h hx h0) (j - 64)
    rw [show 64 + (j - 64) = j by omega] at this
    exact this

/-! Words of bits. -/
theorem or_lt {x n : Nat} (hx : x < 2 ^ 64) (hn : n < 64) : x ||| 2 ^ n < 2 ^ 64 := Nat.or_lt_two_pow hx (Nat.pow_lt_pow_right (by decide) hn)
theorem inC_lt {m : M} {x : Nat} (h : InC m x) : x < 2 ^ 64 := by
  apply Nat.lt_pow_two_of_testBit
  intro i hi
  cases e : x.testBit i
  · rfl
  · have := (h i e).1; omega
theorem div_pow (x k : Nat) : ∃ y : Nat, x / 2 ^ k = y ∧ (x : Int) / 2 ^ k = (y : Int) ∧ y ≤ x :=
  ⟨x / 2 ^ k, rfl, by rw [Int.natCast_ediv]; simp, Nat.div_le_self _ _⟩
theorem bit_and (x k : Nat) (hx : x < 2 ^ 64) : (bits BinOp.and IntKind.u64 ((x : Int) / 2 ^ k) 1 == 1) = x.testBit k := by
  obtain ⟨y, h1, h2, h3⟩ := div_pow x k
  rw [h2, show (1 : Int) = ((1 : Nat) : Int) from rfl, u64_and _ _ (by omega) (by omega) (by decide) (by decide), Nat.testBit_eq_decide_div_mod_eq, h1]
  have e : (((1 : Nat) : Int)).toNat = 1 := rfl
  rw [e, Int.toNat_natCast, nat_mask1, Bool.beq_eq_decide_eq]
  exact decide_eq_decide.2 (by omega)
theorem bit_mod (x k : Nat) : (((x : Int) / 2 ^ k).tmod 2 == 1) = x.testBit k := by
  obtain ⟨y, h1, h2, _⟩ := div_pow x k
  rw [h2, Nat.testBit_eq_decide_div_mod_eq, h1, Bool.beq_eq_decide_eq, Int.tmod_eq_emod_of_nonneg (by omega)]
  exact decide_eq_decide.2 (by omega)
theorem bit_mod0 (x k : Nat) : (((x : Int) / 2 ^ k).tmod 2 == 0) = !x.testBit k := by
  obtain ⟨y, h1, h2, _⟩ := div_pow x k
  rw [h2, Nat.testBit_eq_decide_div_mod_eq, h1, Bool.beq_eq_decide_eq, Int.tmod_eq_emod_of_nonneg (by omega), ← decide_not]
  exact decide_eq_decide.2 (by omega)
theorem or_word {x n : Nat} (hx : x < 2 ^ 64) (hn : n < 64) : orBit (x : Int) n = ((x ||| 2 ^ n : Nat) : Int) := by
  have hp : 2 ^ n < 2 ^ 64 := Nat.pow_lt_pow_right (by decide) hn
  have e1 : IntKind.u64.wrap (2 ^ n) = ((2 ^ n : Nat) : Int) := by
    rw [IntKind.wrap_u64, show ((2 : Int) ^ n) = ((2 ^ n : Nat) : Int) by simp]
    generalize 2 ^ n = p at hp
    omega
  unfold orBit
  rw [e1]
  exact u64_or_nat _ _ hx hp
end Go.Proofs.Ytfcphfdfpjmgiaa
