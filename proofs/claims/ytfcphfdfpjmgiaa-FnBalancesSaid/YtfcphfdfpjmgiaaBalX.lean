/- The law on balances: the gain less the balance less the flows is nearly nothing; who touches a fed cell; the worst one. -/
import Derived.Test.YtfcphfdfpjmgiaaFed
import Derived.Test.YtfcphfdfpjmgiaaSetF
import Derived.Test.YtfcphfdfpjmgiaaWorst
namespace Go.Proofs.Ytfcphfdfpjmgiaa
open Go.RowKit

theorem edge_none {m : M} {k s : Nat} (h : beside m.wide m.high k s < 0) : edge m k s = false := by
  unfold edge
  rw [decide_eq_false (by omega), Bool.false_and]
theorem edge_some {m : M} {k s n : Nat} (h : beside m.wide m.high k s = n) : edge m k s = fgt (joint (m.c k) (m.c n)) (some 0) := by
  unfold edge
  rw [h, decide_eq_true (by omega), Bool.true_and, Int.toNat_natCast]
theorem edge_q {m : M} (N : Nums m) (hs : sized m) {k s n : Nat} (hk : IsCell m k) (h : beside m.wide m.high k s = n) : edge m k s = decide (jQ (N.c k) (N.c n) ≠ 0) := by
  have hn := beside_cell hs hk.1 h
  rw [edge_some h, (N.rvj hk hn).gt rv_zero]
  have := jQ_nonneg (N.cr k) (N.cr n)
  exact decide_eq_decide.2 ⟨fun h => by grind, fun h => by grind⟩
theorem jQ_comm {a c : Nat} (ha : a ≤ 12) (hc : c ≤ 12) : jQ a c = jQ c a := by
  unfold jQ; rw [(jval ha hc).2.2.2.2.2]
/-- The side opposite. -/
theorem beside_back {W H : Int} {k s n : Nat} (hk : k < 64) (hW : W ≤ 8) (hs : s < 4) (hh : hasB W H k = true) (h : beside W H k s = n) : beside W H n ((s + 2) % 4) = k := by
  have e : s = 0 ∨ s = 1 ∨ s = 2 ∨ s = 3 := by omega
  unfold hasB at hh
  rw [Bool.and_eq_true] at hh
  have h1 := of_decide_eq_true hh.1
  have h2 := of_decide_eq_true hh.2
  rcases e with rfl | rfl | rfl | rfl
  all_goals
    unfold beside at h ⊢
    simp only [Nat.reduceAdd, Nat.reduceMod] at h ⊢
    simp [besideXY] at h ⊢
    split at h
    · (first | omega | (split; (first | omega | (exfalso; omega)); (first | omega | (exfalso; omega))))
    · (first | omega | (split; (first | omega | (exfalso; omega)); (first | omega | (exfalso; omega))))
/-- Whether a cell touches fed ones: by its sides up to one. -/
def touB (m : M) (x k : Nat) : Nat → Bool
  | 0 => fixB m.fixed k
  | s + 1 => touB m x k s || (edge m k s && x.testBit (beside m.wide m.high k s).toNat)
theorem touB_true {m : M} {x k : Nat} : ∀ n, touB m x k n = true ↔ fixB m.fixed k = true ∨ ∃ s, s < n ∧ edge m k s = true ∧ x.testBit (beside m.wide m.high k s).toNat = true
  | 0 => ⟨fun h => .inl h, fun h => by rcases h with h | ⟨s, h, _⟩; exact h; omega⟩
  | n + 1 => by
    show (touB m x k n || _) = true ↔ _
    rw [Bool.or_eq_true, touB_true n, Bool.and_eq_true]
    constructor
    · rintro ((h | ⟨s, h1, h2⟩) | h)
      · exact .inl h
      · exact .inr ⟨s, by omega, h2⟩
      · exact .inr ⟨n, by omega, h⟩
    · rintro (h | ⟨s, h1, h2⟩)
      · exact .inl (.inl h)
      · by_cases e : s = n
        · subst e; exact .inr h2
        · exact .inl (.inr ⟨s, by omega, h2⟩)
/-- The fed cells' word. -/
def fedW (m : M) : Nat := fed m m.fixed.toNat 64
theorem fixB_bit {x : Int} (h : 0 ≤ x) (k : Nat) : fixB x k = x.toNat.testBit k := by
  obtain ⟨n, rfl⟩ := Int.eq_ofNat_of_zero_le h
  unfold fixB
  rw [show ((2 : Int) ^ k) = ((2 ^ k : Nat) : Int) by simp, ← Int.natCast_ediv, Int.toNat_natCast, Nat.testBit_eq_decide_div_mod_eq]
  generalize n / 2 ^ k = q
  exact decide_eq_decide.2 (by omega)
structure FedOk (g : G) (x : Nat) : Prop where
  inC : InC g.m x
  sub : Sub g.fixed.toNat x
  touch : ∀ k, IsCell g.m k → touB g.m x k 4 = x.testBit k
theorem Drawn.fixIn {g : G} (h : Drawn g) : InC g.m g.fixed.toNat := by
  intro j hj
  rw [← fixB_bit h.fxr.1] at hj
  exact h.fixCell hj
theorem Drawn.fix0 {g : G} (h : Drawn g) : g.fixed.toNat ≠ 0 := by
  obtain ⟨k, _, _, h2⟩ := h.some
  rw [fixB_bit h.fxr.1] at h2
  intro e
  rw [e, Nat.zero_testBit] at h2
  cases h2
theorem Drawn.fedOk {g : G} (h : Drawn g) (N : Nums g.m) : FedOk g (fedW g.m) := by
  have hs := sized_of h.ok
  have hin : InC g.m (fedW g.m) := fed_in hs h.fixIn 64
  have hst : fed g.m g.fixed.toNat 65 = fed g.m g.fixed.toNat 64 := fed_still hs h.fixIn h.fix0
  have hr : frd g.m (cellsM g.m) (fedW g.m) = fedW g.m := hst
  refine ⟨hin, fed_sub _ _ _, fun k hk => ?_⟩
  have hsub : Sub g.fixed.toNat (fedW g.m) := fed_sub _ _ _
  have hback : ∀ k s n : Nat, s < 4 → IsCell g.m k → beside g.m.wide g.m.high k s = n → edge g.m k s = true → IsCell g.m n ∧ (s + 2) % 4 < 4 ∧ beside g.m.wide g.m.high n ((s + 2) % 4) = k ∧ edge g.m n ((s + 2) % 4) = true := by
    intro k s n hs4 hk hb he
    have hn := beside_cell hs hk.1 hb
    have hb2 := beside_back hk.1 hs.1.2 hs4 hk.2 hb
    refine ⟨hn, by omega, hb2, ?_⟩
    rw [edge_q N hs hk hb] at he
    rw [edge_q N hs hn hb2, jQ_comm (N.cr n) (N.cr k)]
    exact he
  cases e : (fedW g.m).testBit k
  · cases e2 : touB g.m (fedW g.m) k 4
    · rfl
    · exfalso
      rcases (touB_true 4).1 e2 with h1 | ⟨s, h1, h2, h3⟩
      · rw [show g.m.fixed = g.fixed from rfl, fixB_bit h.fxr.1] at h1
        rw [hsub k h1] at e; cases e
      · obtain ⟨n, hn⟩ : ∃ n : Nat, beside g.m.wide g.m.high k s = n := ⟨(beside g.m.wide g.m.high k s).toNat, by unfold edge at h2; rw [Bool.and_eq_true] at h2; have := of_decide_eq_true h2.1; omega⟩
        rw [hn, Int.toNat_natCast] at h3
        obtain ⟨k1, k2, k3, k4⟩ := hback k s n h1 hk hn h2
        have := fsd_rest 4 (frd_rest _ hr n (mem_cellsS.2 k1)) _ k2 h3 k4
        rw [k3, Int.toNat_natCast, e] at this
        cases this
  · refine (touB_true 4).2 ?_
    rcases fed_came g.m g.fixed.toNat 64 k e with h1 | ⟨n, s, h1, h2, h3, h4⟩
    · left
      rw [show g.m.fixed = g.fixed from rfl, fixB_bit h.fxr.1]; exact h1
    · right
      have hn : IsCell g.m n := hin n h2
      have hb : beside g.m.wide g.m.high n s = k := by unfold edge at h3; rw [Bool.and_eq_true] at h3; have := of_decide_eq_true h3.1; omega
      obtain ⟨k1, k2, k3, k4⟩ := hback n s k h1 hn hb h3
      exact ⟨(s + 2) % 4, k2, k4, by rw [k3, Int.toNat_natCast]; exact h2⟩

/-! The sum of a balance and the flows. -/
def rest (m : M) (k : Nat) : Nat → F
  | 0 => fsub (m.g k) (balTo m k 4)
  | s + 1 => fsub (rest m k s) (flow m k s)
def sumQ (f : Nat → Rat) : Nat → Rat
  | 0 => 0
  | s + 1 => sumQ f s + f s
theorem sumQ_le {f : Nat → Rat} (h : ∀ s, s < 4 → f s ≤ 49 ∧ -(f s) ≤ 49) : sumQ f 4 ≤ 196 ∧ -(sumQ f 4) ≤ 196 ∧ sumQ f 3 ≤ 147 ∧ -(sumQ f 3) ≤ 147 ∧ sumQ f 2 ≤ 98 ∧ -(sumQ f 2) ≤ 98 ∧ sumQ f 1 ≤ 49 ∧ -(sumQ f 1) ≤ 49 ∧ sumQ f 0 = 0 := by
  have h0 := h 0 (by omega)
  have h1 := h 1 (by omega)
  have h2 := h 2 (by omega)
  have h3 := h 3 (by omega)
  simp only [sumQ]
  refine ⟨?_, ?_, ?_, ?_, ?_, ?_, ?_, ?_, ?_⟩ <;> grind
theorem sumQ_all {f : Nat → Rat} (h : ∀ s, s < 4 → f s ≤ 49 ∧ -(f s) ≤ 49) {s : Nat} (hs : s ≤ 4) : sumQ f s ≤ 196 ∧ -(sumQ f s) ≤ 196 := by
  obtain ⟨a1, a2, a3, a4, a5, a6, a7, a8, a9⟩ := sumQ_le h
  have e : s = 0 ∨ s = 1 ∨ s = 2 ∨ s = 3 ∨ s = 4 := by omega
  rcases e with rfl | rfl | rfl | rfl | rfl <;> constructor <;> grind
theorem sumQ_diff {f : Nat → Rat} (h : ∀ s, s < 4 → f s ≤ 49 ∧ -(f s) ≤ 49) {s : Nat} (hs : s ≤ 4) : sumQ f 4 - sumQ f s ≤ 196 ∧ -(sumQ f 4 - sumQ f s) ≤ 196 := by
  have h0 := h 0 (by omega)
  have h1 := h 1 (by omega)
  have h2 := h 2 (by omega)
  have h3 := h 3 (by omega)
  have e : s = 0 ∨ s = 1 ∨ s = 2 ∨ s = 3 ∨ s = 4 := by omega
  rcases e with rfl | rfl | rfl | rfl | rfl <;> simp only [sumQ] <;> constructor <;> grind
theorem flows_q {m : M} (N : Nums m) (hs : sized m) {k : Nat} (hk : IsCell m k) : ∃ f : Nat → Rat, ∀ s, s < 4 → RV (flow m k s) (f s) ∧ (f s ≤ 49 ∧ -(f s) ≤ 49) ∧ (beside m.wide m.high k s < 0 → f s = 0) := by
  have h : ∀ s, ∃ q : Rat, s < 4 → RV (flow m k s) q ∧ (q ≤ 49 ∧ -q ≤ 49) ∧ (beside m.wide m.high k s < 0 → q = 0) := by
    intro s
    by_cases hb : beside m.wide m.high k s < 0
    · refine ⟨0, fun _ => ⟨?_, ⟨by grind, by grind⟩, fun _ => rfl⟩⟩
      unfold flow; rw [if_pos hb]; exact rv_zero
    · obtain ⟨n, hn⟩ : ∃ n : Nat, beside m.wide m.high k s = n := ⟨(beside m.wide m.high k s).toNat, by omega⟩
      have hcn := beside_cell hs hk.1 hn
      obtain ⟨r, h1, hnr, _, _⟩ := N.rvf hk hcn hn
      have hj0 := jQ_nonneg (N.cr k) (N.cr n)
      have hj1 := jQ_le (N.cr k) (N.cr n)
      have a1 := N.hr k
      have a2 := N.hr n
      have b1 := quart_le (show N.h k - N.h n ≤ 64 by omega)
      have b2 := quart_le (show -64 ≤ N.h k - N.h n by omega)
      have e1 : quart 64 = 16 := by decide +kernel
      have e2 : quart (-64) = -16 := by decide +kernel
      rw [e1] at b1
      rw [e2] at b2
      have hm1 : jQ (N.c k) (N.c n) * quart (N.h k - N.h n) ≤ 48 := by
        have := Rat.mul_le_mul_of_nonneg_left b1 hj0
        grind
      have hm2 : -(jQ (N.c k) (N.c n) * quart (N.h k - N.h n)) ≤ 48 := by
        have := Rat.mul_le_mul_of_nonneg_left b2 hj0
        grind
      obtain ⟨n1, n2⟩ := hnr 48 hm1 hm2
      have hu := uQ_big
      exact ⟨r, fun _ => ⟨h1, ⟨by grind, by grind⟩, fun h => absurd h hb⟩⟩
  refine ⟨fun s => Classical.choose (h s), fun s hs => Classical.choose_spec (h s) hs⟩
theorem near_sub {x y : F} {p q e d B : Rat} (hx : RV x p) (hy : RV y q) (h1 : p - e ≤ d) (h2 : e - p ≤ d) (hB1 : p - q ≤ 400) (hB2 : -(p - q) ≤ 400) (hd : d + 1 / 20000 ≤ B) :
    ∃ r, RV (fsub x y) r ∧ r - (e - q) ≤ B ∧ (e - q) - r ≤ B := by
  obtain ⟨r, hr, hn, _, _⟩ := hx.sub hy (by grind) (by grind)
  obtain ⟨n1, n2⟩ := hn 400 hB1 hB2
  have hu := uQ_big
  exact ⟨r, hr, by grind, by grind⟩
theorem bal_q {m : M} (N : Nums m) {k : Nat} (hk : IsCell m k) {f : Nat → Rat} (hf : ∀ s, s < 4 → RV (flow m k s) (f s) ∧ (f s ≤ 49 ∧ -(f s) ≤ 49) ∧ (beside m.wide m.high k s < 0 → f s = 0)) :
    ∀ s, s ≤ 4 → ∃ q, RV (balTo m k s) q ∧ q - (quart (N.g k) - sumQ f s) ≤ (s : Nat) / 20000 ∧ (quart (N.g k) - sumQ f s) - q ≤ (s : Nat) / 20000 := by
  have hg := N.gr k
  have b1 := quart_le hg.2
  have b2 := quart_le hg.1
  have e1 : quart 32 = 8 := by decide +kernel
  have e2 : quart (-32) = -8 := by decide +kernel
  rw [e1] at b1
  rw [e2] at b2
  intro s
  induction s with
  | zero =>
    intro _
    refine ⟨_, N.rvg hk, ?_, ?_⟩ <;> simp only [sumQ] <;> grind
  | succ s ih =>
    intro hs
    obtain ⟨q, hq, q1, q2⟩ := ih (by omega)
    obtain ⟨f1, f2, f3⟩ := hf s (by omega)
    have hsm := sumQ_all (fun s hs => (hf s hs).2.1) (s := s) (by omega)
    have hsR : ((s : Nat) : Rat) ≤ 4 := by
      have : ((s : Int) : Rat) ≤ ((4 : Int) : Rat) := Rat.intCast_le_intCast.2 (by omega)
      exact this
    have hsS : (((s + 1 : Nat) : Nat) : Rat) = (s : Rat) + 1 := by push_cast; rfl
    by_cases hb : beside m.wide m.high k s < 0
    · refine ⟨q, ?_, ?_, ?_⟩
      · show RV (if 0 ≤ beside m.wide m.high k s then _ else _) q
        rw [if_neg (by omega)]; exact hq
      · simp only [sumQ]; rw [f3 hb, hsS]; grind
      · simp only [sumQ]; rw [f3 hb, hsS]; grind
    · obtain ⟨r, hr, r1, r2⟩ := near_sub (B := ((s : Nat) + 1) / 20000) hq f1 q1 q2 (by grind) (by grind) (by grind)
      refine ⟨r, ?_, ?_, ?_⟩
      · show RV (if 0 ≤ beside m.wide m.high k s then _ else _) r
        rw [if_pos (by omega)]; exact hr
      · simp only [sumQ]; rw [hsS]; grind
      · simp only [sumQ]; rw [hsS]; grind
theorem rest_q {m : M} (N : Nums m) {k : Nat} (hk : IsCell m k) {f : Nat → Rat} (hf : ∀ s, s < 4 → RV (flow m k s) (f s) ∧ (f s ≤ 49 ∧ -(f s) ≤ 49) ∧ (beside m.wide m.high k s < 0 → f s = 0)) :
    ∀ s, s ≤ 4 → ∃ q, RV (rest m k s) q ∧ q - (sumQ f 4 - sumQ f s) ≤ (s + 5 : Nat) / 20000 ∧ (sumQ f 4 - sumQ f s) - q ≤ (s + 5 : Nat) / 20000 := by
  have hg := N.gr k
  have b1 := quart_le hg.2
  have b2 := quart_le hg.1
  have e1 : quart 32 = 8 := by decide +kernel
  have e2 : quart (-32) = -8 := by decide +kernel
  rw [e1] at b1
  rw [e2] at b2
  have hall := sumQ_all (fun s hs => (hf s hs).2.1) (s := 4) (by omega)
  intro s
  induction s with
  | zero =>
    intro _
    obtain ⟨q, hq, q1, q2⟩ := bal_q N hk hf 4 (by omega)
    have q1' : q - (quart (N.g k) - sumQ f 4) ≤ 4 / 20000 := q1
    have q2' : (quart (N.g k) - sumQ f 4) - q ≤ 4 / 20000 := q2
    obtain ⟨a1, a2⟩ := hall
    have hrv := N.rvg hk
    show ∃ q, RV (rest m k 0) q ∧ q - (sumQ f 4 - 0) ≤ 5 / 20000 ∧ (sumQ f 4 - 0) - q ≤ 5 / 20000
    generalize sumQ f 4 = S at *
    generalize quart (N.g k) = Y at *
    clear hf
    obtain ⟨r, hr, hn, _, _⟩ := hrv.sub hq (by grind) (by grind)
    obtain ⟨n1, n2⟩ := hn 400 (by grind) (by grind)
    have hu := uQ_big
    exact ⟨r, hr, by grind, by grind⟩
  | succ s ih =>
    intro hs
    obtain ⟨q, hq, q1, q2⟩ := ih (by omega)
    obtain ⟨f1, f2, f3⟩ := hf s (by omega)
    obtain ⟨d1, d2⟩ := sumQ_diff (fun s hs => (hf s hs).2.1) (s := s) (by omega)
    have hsR : ((s : Nat) : Rat) ≤ 4 := by
      have : ((s : Int) : Rat) ≤ ((4 : Int) : Rat) := Rat.intCast_le_intCast.2 (by omega)
      exact this
    have hsS : (((s + 5 : Nat) : Nat) : Rat) = (s : Rat) + 5 := by push_cast; rfl
    have hsT : (((s + 1 + 5 : Nat) : Nat) : Rat) = (s : Rat) + 6 := by push_cast; grind
    rw [hsS] at q1 q2
    have e : sumQ f (s + 1) = sumQ f s + f s := rfl
    show ∃ q, RV (fsub (rest m k s) (flow m k s)) q ∧ q - (sumQ f 4 - sumQ f (s + 1)) ≤ _ ∧ (sumQ f 4 - sumQ f (s + 1)) - q ≤ _
    rw [hsT, e]
    generalize sumQ f 4 = S at *
    generalize sumQ f s = T at *
    generalize f s = U at *
    generalize ((s : Nat) : Rat) = R at *
    clear hf ih
    obtain ⟨r, hr, r1, r2⟩ := near_sub (B := (R + 6) / 20000) hq f1 q1 q2 (by grind) (by grind) (by grind)
    exact ⟨r, hr, by grind, by grind⟩
/-- The constant a thousandth. -/
theorem rest_ok {m : M} (N : Nums m) (hs : sized m) {k : Nat} (hk : IsCell m k) : fgt (fabs (rest m k 4)) (some 981668463) = false := by
  obtain ⟨f, hf⟩ := flows_q N hs hk
  obtain ⟨q, hq, q1, q2⟩ := rest_q N hk hf 4 (by omega)
  have q1' : q - (sumQ f 4 - sumQ f 4) ≤ 9 / 20000 := q1
  have q2' : (sumQ f 4 - sumQ f 4) - q ≤ 9 / 20000 := q2
  obtain ⟨p, hp, hpq, hp0⟩ := hq.abs (by grind) (by grind)
  obtain ⟨c, hc, c1, c2⟩ : ∃ c, RV (some 981668463) c ∧ 999 / 1000000 ≤ c ∧ c ≤ 1001 / 1000000 :=
    ⟨(8589935 : Rat) / 8589934592, RV.of (v := 8589935 * (2 ^ 116 : Nat)) (by decide +kernel) (by decide +kernel), by decide +kernel, by decide +kernel⟩
  rw [hp.gt hc]
  refine decide_eq_false ?_
  rcases hpq with rfl | rfl <;> grind
/-- The balances of a drawn ground are all finite. -/
theorem bal_fin {m : M} (N : Nums m) (hs : sized m) {k : Nat} (hk : IsCell m k) : fin (balTo m k 4) = true := by
  obtain ⟨f, hf⟩ := flows_q N hs hk
  obtain ⟨q, hq, _, _⟩ := bal_q N hk hf 4 (by omega)
  exact hq.fin
theorem bals_fin {m : M} (N : Nums m) (hs : sized m) : balOk m (cellsM m) = true := by
  unfold balOk
  rw [List.all_eq_true]
  exact fun c hc => bal_fin N hs (mem_cellsS.1 hc)

/-! The worst one. -/
theorem balF_at {m : M} {k : Nat} (hk : IsCell m k) : balF m (cellsM m) k = balTo m k 4 := by
  unfold balF
  have := mem_cellsS.2 hk
  simp [hk.1, this]
theorem free_mem {m : M} {k : Nat} (hk : IsCell m k) (hf : fixB m.fixed k = false) : k ∈ freeL m 64 := by
  unfold freeL
  rw [List.mem_filter]
  exact ⟨mem_cellsS.2 hk, by rw [hf]; rfl⟩
theorem free_cell {m : M} {k : Nat} (h : k ∈ freeL m 64) : IsCell m k := by
  unfold freeL at h
  exact mem_cellsS.1 (List.mem_filter.1 h).1
theorem worst_ok {m : M} (N : Nums m) (hs : sized m) {k : Nat} (hk : IsCell m k) (hf : fixB m.fixed k = false) :
    ∃ b, IsCell m b ∧ worstB m = some b ∧ fgt (fabs (balTo m k 4)) (fabs (balTo m b 4)) = false := by
  have hall : ∀ c ∈ freeL m 64, ∃ q, RV (fabs (balF m (cellsM m) c)) q := by
    intro c hc
    have hcc := free_cell hc
    rw [balF_at hcc]
    obtain ⟨f, hf⟩ := flows_q N hs hcc
    obtain ⟨q, hq, q1, q2⟩ := bal_q N hcc hf 4 (by omega)
    have q1' : q - (quart (N.g c) - sumQ f 4) ≤ 4 / 20000 := q1
    have q2' : (quart (N.g c) - sumQ f 4) - q ≤ 4 / 20000 := q2
    have hg := N.gr c
    have b1 := quart_le hg.2
    have b2 := quart_le hg.1
    have e1 : quart 32 = 8 := by decide +kernel
    have e2 : quart (-32) = -8 := by decide +kernel
    rw [e1] at b1
    rw [e2] at b2
    have hsm := sumQ_all (fun s hs => (hf s hs).2.1) (s := 4) (by omega)
    obtain ⟨p, hp, _, _⟩ := hq.abs (by grind) (by grind)
    exact ⟨p, hp⟩
  have hmem := free_mem hk hf
  obtain ⟨b, hb⟩ := bestOf_some (d := balF m (cellsM m)) (l := freeL m 64) (List.ne_nil_of_mem hmem)
  obtain ⟨p, hp, hmax⟩ := best_max _ hall b hb
  obtain ⟨q, hq, hle⟩ := hmax k hmem
  have hbc := free_cell (bestOf_mem hb)
  refine ⟨b, hbc, hb, ?_⟩
  rw [balF_at hk] at hq
  rw [balF_at hbc] at hp
  rw [hq.gt hp]
  exact decide_eq_false (by grind)
end Go.Proofs.Ytfcphfdfpjmgiaa
