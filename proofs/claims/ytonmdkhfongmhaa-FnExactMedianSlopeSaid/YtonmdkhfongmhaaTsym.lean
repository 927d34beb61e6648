/- Turning a part of a list, and merging in place: the plain laws. -/
import Derived.Sort.LotA
namespace Go.Proofs.Ytonmdkhfongmhaa
open Go.Sort
variable {α : Type} [Inhabited α]

/-- What lies at k when [a, m) and [m, b) have changed places. -/
def rotG (d : Array α) (a m b k : Nat) : α := if a ≤ k ∧ k < b then (if k < a + (b - m) then d[k + (m - a)]! else d[k - (b - m)]!) else d[k]!
/-- So many pairs change places. -/
def swpR (d : Array α) (a b : Nat) : Nat → Array α
  | 0 => d
  | k + 1 => swp (swpR d a b k) (a + k) (b + k)
theorem swpR_size (d : Array α) (a b : Nat) : ∀ n, (swpR d a b n).size = d.size
  | 0 => rfl
  | n + 1 => by show (swp _ _ _).size = _; rw [swp_size, swpR_size d a b n]
theorem swpR_get (d : Array α) (a b : Nat) : ∀ n, a + n ≤ b → b + n ≤ d.size → ∀ k, (swpR d a b n)[k]! = if a ≤ k ∧ k < a + n then d[k + (b - a)]! else if b ≤ k ∧ k < b + n then d[k - (b - a)]! else d[k]!
  | 0, _, _, k => by rw [if_neg (by omega), if_neg (by omega)]; rfl
  | n + 1, h1, h2, k => by
    have ih := swpR_get d a b n (by omega) (by omega)
    show (swp (swpR d a b n) (a + n) (b + n))[k]! = _
    rw [swp_get _ (by rw [swpR_size]; omega) (by rw [swpR_size]; omega)]
    by_cases e1 : k = b + n
    · rw [if_pos e1, ih (a + n), if_neg (by omega), if_neg (by omega), if_neg (by omega), if_pos (by omega)]
      congr 1; omega
    · rw [if_neg e1]
      by_cases e2 : k = a + n
      · rw [if_pos e2, ih (b + n), if_neg (by omega), if_neg (by omega), if_pos (by omega)]
        congr 1; omega
      · rw [if_neg e2, ih k]
        repeat' split
        all_goals first | (exfalso; omega) | rfl
theorem swpR_perm (d : Array α) (a b lo hi : Nat) : ∀ n, a + n ≤ b → b + n ≤ hi → lo ≤ a → hi ≤ d.size → PermIn lo hi d (swpR d a b n)
  | 0, _, _, _, _ => permIn_refl d lo hi
  | n + 1, h1, h2, h3, h4 => by
    have ih := swpR_perm d a b lo hi n (by omega) (by omega) h3 h4
    exact permIn_trans _ _ _ _ _ ih (swp_permIn _ lo hi (a + n) (b + n) (by omega) (by omega) (by omega) (by omega) (by rw [swpR_size]; exact h4))

/-- Where a turn stands. -/
structure Turn (d dk : Array α) (a m b i j : Nat) : Prop where
  size : dk.size = d.size
  perm : PermIn a b d dk
  get : ∀ k, rotG dk (m - i) m (m + j) k = rotG d a m b k
theorem Turn.start (d : Array α) {a m b : Nat} (h1 : a ≤ m) (h2 : m ≤ b) : Turn d d a m b (m - a) (b - m) :=
  ⟨rfl, permIn_refl d a b, fun k => by rw [show m - (m - a) = a by omega, show m + (b - m) = b by omega]⟩
theorem Turn.left {d dk : Array α} {a m b i j : Nat} (h : Turn d dk a m b i j) (hij : j < i) (hi : i ≤ m - a) (ha : a ≤ m) (hj : m + j ≤ b) (hb : b ≤ d.size) : Turn d (swpR dk (m - i) m j) a m b (i - j) j := by
  have hg := swpR_get dk (m - i) m j (by omega) (by rw [h.size]; omega)
  refine ⟨by rw [swpR_size, h.size], permIn_trans _ _ _ _ _ h.perm (swpR_perm dk _ _ a b j (by omega) (by omega) (by omega) (by rw [h.size]; exact hb)), fun k => ?_⟩
  rw [← h.get k]
  unfold rotG
  simp only [hg]
  repeat' split
  all_goals first | (exfalso; omega) | rfl | (congr 1; omega)
theorem Turn.right {d dk : Array α} {a m b i j : Nat} (h : Turn d dk a m b i j) (hij : i < j) (hi : i ≤ m - a) (ha : a ≤ m) (hj : m + j ≤ b) (hb : b ≤ d.size) : Turn d (swpR dk (m - i) (m + j - i) i) a m b i (j - i) := by
  have hg := swpR_get dk (m - i) (m + j - i) i (by omega) (by rw [h.size]; omega)
  refine ⟨by rw [swpR_size, h.size], permIn_trans _ _ _ _ _ h.perm (swpR_perm dk _ _ a b i (by omega) (by omega) (by omega) (by rw [h.size]; exact hb)), fun k => ?_⟩
  rw [← h.get k]
  unfold rotG
  simp only [hg]
  repeat' split
  all_goals first | (exfalso; omega) | rfl | (congr 1; omega)
theorem Turn.done {d dk : Array α} {a m b i : Nat} (h : Turn d dk a m b i i) (hi : i ≤ m - a) (ha : a ≤ m) (hj : m + i ≤ b) (hb : b ≤ d.size) :
    PermIn a b d (swpR dk (m - i) m i) ∧ ∀ k, (swpR dk (m - i) m i)[k]! = rotG d a m b k := by
  have hg := swpR_get dk (m - i) m i (by omega) (by rw [h.size]; omega)
  refine ⟨permIn_trans _ _ _ _ _ h.perm (swpR_perm dk _ _ a b i (by omega) (by omega) (by omega) (by rw [h.size]; exact hb)), fun k => ?_⟩
  rw [← h.get k, hg]
  unfold rotG
  repeat' split
  all_goals first | (exfalso; omega) | rfl | (congr 1; omega)

variable {lt : α → α → Bool}
/-- In a sorted part an earlier one, or the same, is not greater. -/
theorem SortedIn.le (hS : SWO lt) {a b : Nat} {d : Array α} (h : SortedIn lt a b d) {i j : Nat} (h1 : a ≤ i) (h2 : i ≤ j) (h3 : j < b) : lt d[j]! d[i]! = false := by
  rcases Nat.lt_or_eq_of_le h2 with h4 | h4
  · exact h i j h1 h4 h3
  · subst h4; exact hS.irrefl _
theorem merge_left (hS : SWO lt) {d e : Array α} {a b i : Nat} (hR : SortedIn lt (a + 1) b d) (hi1 : a + 1 ≤ i) (hi2 : i ≤ b) (h1 : i = a + 1 ∨ lt d[i - 1]! d[a]! = true) (h2 : i = b ∨ lt d[i]! d[a]! = false)
    (he : ∀ k, e[k]! = rotG d a (a + 1) i k) : SortedIn lt a b e := by
  have k1 : ∀ k, a + 1 ≤ k → k < i → lt d[a]! d[k]! = false := fun k hk1 hk2 => by
    refine hS.asymmA ?_
    rcases h1 with h1 | h1
    · omega
    · cases hc : lt d[k]! d[a]! with
      | true => rfl
      | false =>
        have := hS.ntrans _ _ _ (SortedIn.le hS hR hk1 (show k ≤ i - 1 by omega) (by omega)) hc
        rw [this] at h1; cases h1
  have k2 : ∀ k, i ≤ k → k < b → lt d[k]! d[a]! = false := fun k hk1 hk2 => by
    rcases h2 with h2 | h2
    · omega
    · exact hS.ntrans _ _ _ (SortedIn.le hS hR hi1 hk1 hk2) h2
  have g1 : ∀ k, a ≤ k → k < i - 1 → e[k]! = d[k + 1]! := fun k hk1 hk2 => by rw [he k]; unfold rotG; rw [if_pos (by omega), if_pos (by omega), show k + (a + 1 - a) = k + 1 by omega]
  have g2 : e[i - 1]! = d[a]! := by rw [he]; unfold rotG; rw [if_pos (by omega), if_neg (by omega), show i - 1 - (i - (a + 1)) = a by omega]
  have g3 : ∀ k, i ≤ k → e[k]! = d[k]! := fun k hk => by rw [he k]; unfold rotG; rw [if_neg (by omega)]
  intro p q hp hpq hq
  by_cases c1 : q < i - 1
  · rw [g1 p hp (by omega), g1 q (by omega) c1]
    exact hR _ _ (by omega) (by omega) (by omega)
  · by_cases c2 : q = i - 1
    · rw [c2, g2, g1 p hp (by omega)]
      exact k1 _ (by omega) (by omega)
    · rw [g3 q (by omega)]
      by_cases c3 : p < i - 1
      · rw [g1 p hp c3]
        exact hR _ _ (by omega) (by omega) hq
      · by_cases c4 : p = i - 1
        · rw [c4, g2]
          exact k2 q (by omega) hq
        · rw [g3 p (by omega)]
          exact hR _ _ (by omega) hpq hq
theorem merge_right (hS : SWO lt) {d e : Array α} {a m i : Nat} (hL : SortedIn lt a m d) (hi1 : a ≤ i) (hi2 : i ≤ m) (h1 : i = a ∨ lt d[m]! d[i - 1]! = false) (h2 : i = m ∨ lt d[m]! d[i]! = true)
    (he : ∀ k, e[k]! = rotG d i m (m + 1) k) : SortedIn lt a (m + 1) e := by
  have k1 : ∀ k, a ≤ k → k < i → lt d[m]! d[k]! = false := fun k hk1 hk2 => by
    rcases h1 with h1 | h1
    · omega
    · exact hS.ntrans _ _ _ h1 (SortedIn.le hS hL hk1 (show k ≤ i - 1 by omega) (by omega))
  have k2 : ∀ k, i ≤ k → k < m → lt d[k]! d[m]! = false := fun k hk1 hk2 => by
    rcases h2 with h2 | h2
    · omega
    · exact hS.ntrans _ _ _ (SortedIn.le hS hL hi1 hk1 hk2) (hS.asymmA h2)
  have g1 : ∀ k, k < i → e[k]! = d[k]! := fun k hk => by rw [he k]; unfold rotG; rw [if_neg (by omega)]
  have g2 : e[i]! = d[m]! := by rw [he]; unfold rotG; rw [if_pos (by omega), if_pos (by omega), show i + (m - i) = m by omega]
  have g3 : ∀ k, i < k → k < m + 1 → e[k]! = d[k - 1]! := fun k hk1 hk2 => by rw [he k]; unfold rotG; rw [if_pos (by omega), if_neg (by omega), show k - (m + 1 - m) = k - 1 by omega]
  intro p q hp hpq hq
  by_cases c1 : q < i
  · rw [g1 p (by omega), g1 q c1]
    exact hL _ _ hp hpq (by omega)
  · by_cases c2 : q = i
    · rw [c2, g2, g1 p (by omega)]
      exact k1 p hp (by omega)
    · rw [g3 q (by omega) hq]
      by_cases c3 : p < i
      · rw [g1 p c3]
        exact hL _ _ hp (by omega) (by omega)
      · by_cases c4 : p = i
        · rw [c4, g2]
          exact k2 _ (by omega) (by omega)
        · rw [g3 p (by omega) (by omega)]
          exact hL _ _ (by omega) (by omega) (by omega)
/-- Both halves are split so that what is turned to the left is not greater than what is turned to the right. -/
theorem merge_split (hS : SWO lt) {d e : Array α} {a m b mid s t : Nat} (hL : SortedIn lt a m d) (hR : SortedIn lt m b d) (hs1 : a ≤ s) (hs2 : s ≤ m) (ht1 : m ≤ t) (ht2 : t ≤ b) (hst : t + s = mid + m)
    (h1 : a < s → t < b → lt d[t]! d[s - 1]! = false) (h2 : s < m → m < t → lt d[t - 1]! d[s]! = true) (he : ∀ k, e[k]! = rotG d s m t k) :
    SortedIn lt a s e ∧ SortedIn lt s mid e ∧ SortedIn lt mid t e ∧ SortedIn lt t b e ∧ (∀ i j, a ≤ i → i < mid → mid ≤ j → j < b → lt e[j]! e[i]! = false) := by
  have g1 : ∀ k, k < s → e[k]! = d[k]! := fun k hk => by rw [he k]; unfold rotG; rw [if_neg (by omega)]
  have g2 : ∀ k, s ≤ k → k < mid → e[k]! = d[k + (m - s)]! := fun k hk1 hk2 => by rw [he k]; unfold rotG; rw [if_pos (by omega), if_pos (by omega)]
  have g3 : ∀ k, mid ≤ k → k < t → e[k]! = d[k - (t - m)]! := fun k hk1 hk2 => by rw [he k]; unfold rotG; rw [if_pos (by omega), if_neg (by omega)]
  have g4 : ∀ k, t ≤ k → e[k]! = d[k]! := fun k hk => by rw [he k]; unfold rotG; rw [if_neg (by omega)]
  refine ⟨fun p q hp hpq hq => ?_, fun p q hp hpq hq => ?_, fun p q hp hpq hq => ?_, fun p q hp hpq hq => ?_, fun i j hi1 hi2 hj1 hj2 => ?_⟩
  · rw [g1 p (by omega), g1 q hq]; exact hL _ _ hp hpq (by omega)
  · rw [g2 p hp (by omega), g2 q (by omega) hq]; exact hR _ _ (by omega) (by omega) (by omega)
  · rw [g3 p hp (by omega), g3 q (by omega) hq]; exact hL _ _ (by omega) (by omega) (by omega)
  · rw [g4 p hp, g4 q (by omega)]; exact hR _ _ (by omega) hpq hq
  · by_cases c1 : i < s
    · rw [g1 i c1]
      by_cases c2 : j < t
      · rw [g3 j hj1 c2]; exact hL _ _ hi1 (by omega) (by omega)
      · rw [g4 j (by omega)]
        refine hS.ntrans _ _ _ (SortedIn.le hS hR ht1 (show t ≤ j by omega) hj2) (hS.ntrans _ _ _ (h1 (by omega) (by omega)) (SortedIn.le hS hL hi1 (show i ≤ s - 1 by omega) (by omega)))
    · rw [g2 i (by omega) hi2]
      by_cases c2 : j < t
      · rw [g3 j hj1 c2]
        have h3 := hS.asymmA (h2 (by omega) (by omega))
        refine hS.ntrans _ _ _ (SortedIn.le hS hL hs1 (show s ≤ j - (t - m) by omega) (by omega)) (hS.ntrans _ _ _ h3 (SortedIn.le hS hR (show m ≤ i + (m - s) by omega) (show i + (m - s) ≤ t - 1 by omega) (by omega)))
      · rw [g4 j (by omega)]; exact hR _ _ (by omega) (by omega) hj2
theorem merge_join {e e1 e2 : Array α} {a mid b : Nat} (ha : a ≤ mid) (hm : mid ≤ b) (hb : b ≤ e.size) (hc : ∀ i j, a ≤ i → i < mid → mid ≤ j → j < b → lt e[j]! e[i]! = false)
    (p1 : PermIn a mid e e1) (s1 : SortedIn lt a mid e1) (p2 : PermIn mid b e1 e2) (s2 : SortedIn lt mid b e2) : SortedIn lt a b e2 ∧ PermIn a b e e2 := by
  have hsz1 : e1.size = e.size := p1.1
  refine ⟨fun p q hp hpq hq => ?_, permIn_trans _ _ _ _ _ (permIn_mono e e1 a mid a b (Nat.le_refl _) hm hb p1) (permIn_mono e1 e2 mid b a b ha (Nat.le_refl _) (by rw [hsz1]; exact hb) p2)⟩
  by_cases c1 : q < mid
  · rw [p2.2.1 p (.inl (by omega)), p2.2.1 q (.inl c1)]
    exact s1 _ _ hp hpq c1
  · by_cases c2 : mid ≤ p
    · exact s2 _ _ c2 hpq hq
    · rw [p2.2.1 p (.inl (by omega))]
      refine permIn_all e1 e2 mid b (fun x => lt x e1[p]! = false) (by rw [hsz1]; exact hb) p2 (fun j hj1 hj2 => ?_) q (by omega) hq
      show lt e1[j]! e1[p]! = false
      rw [p1.2.1 j (.inr hj1)]
      exact permIn_all e e1 a mid (fun x => lt e[j]! x = false) (by omega) p1 (fun i hi1 hi2 => hc i j hi1 hi2 hj1 hj2) p hp (by omega)
end Go.Proofs.Ytonmdkhfongmhaa
