/- Sorting by blocks: the plain laws. -/
import Derived.Sort.LotA
namespace Go.Proofs.Ytonmdkhfongmhaa
open Go.Sort
variable {α : Type} [Inhabited α] {lt : α → α → Bool}

/-- Each block of this size, up to n, is sorted. -/
def Bl (lt : α → α → Bool) (bs n : Nat) (d : Array α) : Prop := ∀ p q, p < q → q < n → p / bs = q / bs → lt d[q]! d[p]! = false
theorem Bl.zero (bs : Nat) (d : Array α) : Bl lt bs 0 d := fun p q _ h => absurd h (by omega)
theorem div_low {bs k q : Nat} (hs : 0 < bs) (h : bs * k ≤ q) : k ≤ q / bs := (Nat.le_div_iff_mul_le hs).2 (by rw [Nat.mul_comm]; exact h)
theorem low_div {bs k q : Nat} (h : k ≤ q / bs) : bs * k ≤ q := Nat.le_trans (Nat.mul_le_mul_left bs h) (Nat.mul_div_le q bs)
theorem div_in {bs k q : Nat} (h1 : bs * k ≤ q) (h2 : q < bs * k + bs) : q / bs = k := by
  refine Nat.div_eq_of_lt_le (by rw [Nat.mul_comm]; exact h1) ?_
  rw [Nat.mul_comm, Nat.mul_add, Nat.mul_one]; exact h2
theorem Bl.ext {bs a b k : Nat} {d e : Array α} (hs : 0 < bs) (ha : a = bs * k) (h : Bl lt bs a d) (hp : PermIn a b d e) (he : SortedIn lt a b e) : Bl lt bs b e := by
  intro p q hpq hq hd
  by_cases c : q < a
  · rw [hp.2.1 q (.inl c), hp.2.1 p (.inl (by omega))]
    exact h p q hpq c hd
  · have h1 : k ≤ q / bs := div_low hs (by omega)
    have h2 : bs * k ≤ p := low_div (by rw [hd]; exact h1)
    exact he p q (by omega) hpq hq
theorem Bl.sorted {bs n : Nat} {d : Array α} (h : Bl lt bs n d) (hn : n ≤ bs) : SortedIn lt 0 n d := fun p q _ hpq hq => h p q hpq hq (by rw [Nat.div_eq_of_lt (by omega), Nat.div_eq_of_lt (by omega)])

/-- Pairs of blocks are merged up to a. -/
def Mx (lt : α → α → Bool) (bs a n : Nat) (d : Array α) : Prop := (∀ p q, p < q → q < a → p / (bs * 2) = q / (bs * 2) → lt d[q]! d[p]! = false) ∧ ∀ p q, a ≤ p → p < q → q < n → p / bs = q / bs → lt d[q]! d[p]! = false
theorem Mx.start {bs n : Nat} {d : Array α} (h : Bl lt bs n d) : Mx lt bs 0 n d := ⟨fun p q _ hq => absurd hq (by omega), fun p q _ h1 h2 h3 => h p q h1 h2 h3⟩
theorem Mx.left {bs a n k c : Nat} {d : Array α} (ha : a = bs * 2 * k) (h : Mx lt bs a n d) (hc : c ≤ a + bs) (hn : c ≤ n) : SortedIn lt a c d := fun p q hp hpq hq => by
  have e : bs * (2 * k) = a := by rw [ha, Nat.mul_assoc]
  refine h.2 p q hp hpq (by omega) ?_
  rw [div_in (k := 2 * k) (by omega) (by omega), div_in (k := 2 * k) (by omega) (by omega)]
theorem Mx.right {bs a n k c : Nat} {d : Array α} (ha : a = bs * 2 * k) (h : Mx lt bs a n d) (hc : c ≤ a + 2 * bs) (hn : c ≤ n) : SortedIn lt (a + bs) c d := fun p q hp hpq hq => by
  have e : bs * (2 * k + 1) = a + bs := by rw [ha, Nat.mul_add, Nat.mul_one, Nat.mul_assoc]
  refine h.2 p q (by omega) hpq (by omega) ?_
  rw [div_in (k := 2 * k + 1) (by omega) (by omega), div_in (k := 2 * k + 1) (by omega) (by omega)]
theorem Mx.step {bs a n k b : Nat} {d e : Array α} (hs : 0 < bs) (ha : a = bs * 2 * k) (h : Mx lt bs a n d) (hp : PermIn a b d e) (he : SortedIn lt a b e) (hab : a ≤ b) : Mx lt bs b n e := by
  have h1 : Bl lt (bs * 2) a d := h.1
  refine ⟨Bl.ext (by omega) ha h1 hp he, fun p q h2 h3 h4 h5 => ?_⟩
  rw [hp.2.1 q (.inr (by omega)), hp.2.1 p (.inr (by omega))]
  exact h.2 p q (by omega) h3 h4 h5
theorem Mx.done {bs a n k : Nat} {d e : Array α} (hs : 0 < bs) (ha : a = bs * 2 * k) (h : Mx lt bs a n d) (hp : PermIn a n d e) (he : SortedIn lt a n e) : Bl lt (bs * 2) n e := Bl.ext (by omega) ha h.1 hp he
theorem Mx.rest {bs a n k : Nat} {d : Array α} (hs : 0 < bs) (ha : a = bs * 2 * k) (h : Mx lt bs a n d) (hn : n ≤ a + bs) : Bl lt (bs * 2) n d :=
  Mx.done hs ha h (permIn_refl d a n) (Mx.left ha h hn (Nat.le_refl _))
end Go.Proofs.Ytonmdkhfongmhaa
