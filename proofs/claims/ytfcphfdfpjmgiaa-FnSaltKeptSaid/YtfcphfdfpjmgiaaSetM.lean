/- Settled heads on grounds whose conductances and gains are a few quarters: how they lie. -/
import Derived.Test.YtfcphfdfpjmgiaaLM2
namespace Go.Proofs.Ytfcphfdfpjmgiaa
open Go.RowKit

/-- Conductances and gains of a few quarters. -/
structure CG (m : M) where
  c : Nat → Nat
  g : Nat → Int
  cr : ∀ k, c k ≤ 12
  gr : ∀ k, -32 ≤ g k ∧ g k ≤ 32
  cv : ∀ k, k < 64 → hasB m.wide m.high k = true → m.c k = fb (qB (c k))
  gv : ∀ k, k < 64 → hasB m.wide m.high k = true → m.g k = fb (qB (g k))
def Nums.cg {m : M} (N : Nums m) : CG m := ⟨N.c, N.g, N.cr, N.gr, N.cv, N.gv⟩
theorem CG.rvg {m : M} (N : CG m) {k : Nat} (hk : IsCell m k) : RV (m.g k) (quart (N.g k)) := by
  have := N.gr k
  rw [N.gv k hk.1 hk.2]; exact rv_q (by omega) (by omega)
theorem CG.rvj {m : M} (N : CG m) {k n : Nat} (hk : IsCell m k) (hn : IsCell m n) : RV (joint (m.c k) (m.c n)) (jQ (N.c k) (N.c n)) := by
  rw [N.cv k hk.1 hk.2, N.cv n hn.1 hn.2]; exact rv_joint (N.cr k) (N.cr n)
theorem uQ_big : (1 : Rat) / uQ ≤ 1 / 1000000000000 := by decide +kernel

/-- A product by a joint, added. -/
theorem add_part {A P h : F} {a j q x γ σ Γ H lo hi : Rat} {s : Rat} (hA : RV A a) (hJ : RV P j) (hh : RV h q) (hj : j = 0 ∨ 1 / 4 ≤ j) (hj3 : j ≤ 3) (hσ : 0 ≤ σ) (hσ3 : σ ≤ 9) (hs : 0 ≤ s) (hs3 : s ≤ 3) (hΓ0 : 0 ≤ Γ) (hΓ8 : Γ ≤ 8) (hγ : γ ≤ Γ) (hγ' : -γ ≤ Γ) (hH : 1 ≤ H) (hH2 : H ≤ 100000)
    (hq : q ≤ H) (hq' : -q ≤ H) (hlo : lo ≤ q ∨ j = 0) (hhi : q ≤ hi ∨ j = 0) (hx1 : lo * σ ≤ x) (hx2 : x ≤ hi * σ) (hxH : x ≤ H * σ) (hxH' : -x ≤ H * σ) (he1 : a - γ - x ≤ s * (Γ + H * σ) / 2000000) (he2 : γ + x - a ≤ s * (Γ + H * σ) / 2000000) :
    ∃ a' x', RV (fadd A (fmul P h)) a' ∧ lo * (σ + j) ≤ x' ∧ x' ≤ hi * (σ + j) ∧ x' ≤ H * (σ + j) ∧ -x' ≤ H * (σ + j) ∧ a' - γ - x' ≤ (s + 1) * (Γ + H * (σ + j)) / 2000000 ∧ γ + x' - a' ≤ (s + 1) * (Γ + H * (σ + j)) / 2000000 := by
  have hu := uQ_big
  have hHσ : H * σ ≤ 900000 := by
    have h1 := Rat.mul_le_mul_of_nonneg_right hH2 hσ
    have h2 := Rat.mul_le_mul_of_nonneg_left hσ3 (show (0 : Rat) ≤ 100000 by decide)
    grind
  have hHσ0 : 0 ≤ H * σ := Rat.mul_nonneg (by grind) hσ
  have hse : s * (Γ + H * σ) ≤ 3 * (Γ + H * σ) := Rat.mul_le_mul_of_nonneg_right hs3 (by grind)
  rcases hj with hj0 | hj0
  · subst hj0
    obtain ⟨p, hp, _, p1, p2⟩ := hJ.mul hh (by rw [Rat.zero_mul]; decide) (by rw [Rat.zero_mul]; decide)
    have hp0 : p = 0 := Rat.le_antisymm (p1 _ _ rv_zero (by rw [Rat.zero_mul]; exact Rat.le_refl)) (p2 _ _ rv_zero (by rw [Rat.zero_mul]; exact Rat.le_refl))
    subst hp0
    have ha1 : a ≤ 2000000 := by grind
    have ha2 : -a ≤ 2000000 := by grind
    obtain ⟨a', ha', _, q1, q2⟩ := hA.add hp (by grind) (by grind)
    have hae : a' = a := Rat.le_antisymm (q1 _ _ hA (by grind)) (q2 _ _ hA (by grind))
    subst hae
    refine ⟨a', x, ha', ?_, ?_, ?_, ?_, ?_, ?_⟩
    all_goals rw [Rat.add_zero]
    · exact hx1
    · exact hx2
    · exact hxH
    · exact hxH'
    · grind
    · grind
  · have hlo' : lo ≤ q := by rcases hlo with h | h; exact h; exfalso; grind
    have hhi' : q ≤ hi := by rcases hhi with h | h; exact h; exfalso; grind
    have hj00 : 0 ≤ j := by grind
    have k1 : j * q ≤ j * H := Rat.mul_le_mul_of_nonneg_left hq hj00
    have k2 : j * -q ≤ j * H := Rat.mul_le_mul_of_nonneg_left hq' hj00
    have k3 : j * H ≤ 3 * H := Rat.mul_le_mul_of_nonneg_right hj3 (by grind)
    have k4 : 1 / 4 * H ≤ j * H := Rat.mul_le_mul_of_nonneg_right hj0 (by grind)
    have k5 : lo * j ≤ q * j := Rat.mul_le_mul_of_nonneg_right hlo' hj00
    have k6 : q * j ≤ hi * j := Rat.mul_le_mul_of_nonneg_right hhi' hj00
    obtain ⟨p, hp, pn, _, _⟩ := hJ.mul hh (by grind) (by grind)
    obtain ⟨pn1, pn2⟩ := pn (j * H) k1 (by grind)
    have ha1 : a ≤ 2000000 := by grind
    have ha2 : -a ≤ 2000000 := by grind
    have hp1 : p ≤ 400000 := by grind
    have hp2 : -p ≤ 400000 := by grind
    obtain ⟨a', ha', an, _, _⟩ := hA.add hp (by grind) (by grind)
    obtain ⟨an1, an2⟩ := an (2 * (Γ + H * (σ + j))) (by grind) (by grind)
    have k7 : 0 ≤ s * (j * H) := Rat.mul_nonneg hs (by grind)
    refine ⟨a', x + q * j, ha', by grind, by grind, by grind, by grind, ?_, ?_⟩
    · grind
    · grind
/-- Joints, added. -/
theorem add_joint {L P : F} {l j σ s : Rat} (hL : RV L l) (hJ : RV P j) (hj : j = 0 ∨ 1 / 4 ≤ j) (hj3 : j ≤ 3) (hσ : 0 ≤ σ) (hσ3 : σ ≤ 9) (hs : 0 ≤ s) (hs3 : s ≤ 3) (he1 : l - σ ≤ s * σ / 4000000) (he2 : σ - l ≤ s * σ / 4000000) :
    ∃ l', RV (fadd L P) l' ∧ (j = 0 → l' = l) ∧ l' - (σ + j) ≤ (s + 1) * (σ + j) / 4000000 ∧ (σ + j) - l' ≤ (s + 1) * (σ + j) / 4000000 := by
  have hu := uQ_big
  have k0 : s * σ ≤ 3 * σ := Rat.mul_le_mul_of_nonneg_right hs3 hσ
  have k1 : 0 ≤ s * σ := Rat.mul_nonneg hs hσ
  rcases hj with hj0 | hj0
  · subst hj0
    obtain ⟨l', hl', _, q1, q2⟩ := hL.add hJ (by grind) (by grind)
    have hle : l' = l := Rat.le_antisymm (q1 _ _ hL (by grind)) (q2 _ _ hL (by grind))
    subst hle
    refine ⟨l', hl', fun _ => rfl, ?_, ?_⟩
    all_goals
      rw [Rat.add_zero]
      grind
  · have k2 : 0 ≤ s * j := Rat.mul_nonneg hs (by grind)
    obtain ⟨l', hl', an, _, _⟩ := hL.add hJ (by grind) (by grind)
    obtain ⟨an1, an2⟩ := an (3 / 2 * (σ + j)) (by grind) (by grind)
    refine ⟨l', hl', fun h => by exfalso; grind, ?_, ?_⟩
    · grind
    · grind

/-- The sums over the first sides. -/
structure Sums (m : M) (N : CG m) (k s : Nat) (γ Γ H lo hi : Rat) (a l σ x : Rat) : Prop where
  ra : RV (abv m k s) a
  rl : RV (blw m k s) l
  s0 : 0 ≤ σ
  s3 : σ ≤ 3 * s
  s4 : σ = 0 ∨ 1 / 4 ≤ σ
  s5 : ∀ t n : Nat, t < s → beside m.wide m.high k t = n → jQ (N.c k) (N.c n) ≤ σ
  l0 : σ = 0 → l = 0
  x1 : lo * σ ≤ x
  x2 : x ≤ hi * σ
  x3 : x ≤ H * σ
  x4 : -x ≤ H * σ
  e1 : a - γ - x ≤ s * (Γ + H * σ) / 2000000
  e2 : γ + x - a ≤ s * (Γ + H * σ) / 2000000
  e3 : l - σ ≤ s * σ / 4000000
  e4 : σ - l ≤ s * σ / 4000000
theorem jQ_cases {a c : Nat} (ha : a ≤ 12) (hc : c ≤ 12) : jQ a c = 0 ∨ 1 / 4 ≤ jQ a c := by
  by_cases h : a = 0 ∨ c = 0
  · exact .inl (jQ_zero ha hc h)
  · exact .inr (jQ_pos ha hc (by omega) (by omega))
/-- The heads beside a cell. -/
def Beside (m : M) (N : CG m) (k : Nat) (H lo hi : Rat) : Prop := ∀ s n : Nat, s < 4 → beside m.wide m.high k s = n → ∃ q, RV (m.h n) q ∧ q ≤ H ∧ -q ≤ H ∧ (jQ (N.c k) (N.c n) ≠ 0 → lo ≤ q ∧ q ≤ hi)
theorem sums_any {m : M} (N : CG m) (hsz : sized m) {k : Nat} (hk : IsCell m k) {γ Γ H lo hi : Rat} (hγ : RV (m.g k) γ) (hΓ0 : 0 ≤ Γ) (hΓ8 : Γ ≤ 8) (h1 : γ ≤ Γ) (h2 : -γ ≤ Γ) (hH : 1 ≤ H) (hH2 : H ≤ 100000) (hb : Beside m N k H lo hi) :
    ∀ s, s ≤ 4 → ∃ a l σ x, Sums m N k s γ Γ H lo hi a l σ x
  | 0, _ => ⟨γ, 0, 0, 0, hγ, rv_zero, Rat.le_refl, by simp, .inl rfl, fun t n ht => absurd ht (by omega), fun _ => rfl, by grind, by grind, by grind, by grind, by grind, by grind, by grind, by grind⟩
  | s + 1, hs => by
    obtain ⟨a, l, σ, x, S⟩ := sums_any N hsz hk hγ hΓ0 hΓ8 h1 h2 hH hH2 hb s (by omega)
    have hcast : (((s + 1 : Nat) : Nat) : Rat) = (s : Rat) + 1 := by exact_mod_cast rfl
    have hs0 : (0 : Rat) ≤ (s : Rat) := by exact_mod_cast Nat.zero_le s
    have hs3 : (s : Rat) ≤ 3 := by exact_mod_cast (show s ≤ 3 by omega)
    by_cases hn : 0 ≤ beside m.wide m.high k s
    · obtain ⟨n, hn2⟩ : ∃ n : Nat, beside m.wide m.high k s = n := ⟨(beside m.wide m.high k s).toNat, by omega⟩
      have hcn := beside_cell hsz hk.1 hn2
      obtain ⟨q, hq, q1, q2, q3⟩ := hb s n (by omega) hn2
      have hj := jQ_cases (N.cr k) (N.cr n)
      have hj3 := jQ_le (N.cr k) (N.cr n)
      have hj0 := jQ_nonneg (N.cr k) (N.cr n)
      have hJ := N.rvj hk hcn
      have hσ9 : σ ≤ 9 := by have := S.s3; grind
      have hlo : lo ≤ q ∨ jQ (N.c k) (N.c n) = 0 := by
        by_cases h : jQ (N.c k) (N.c n) = 0
        · exact .inr h
        · exact .inl (q3 h).1
      have hhi : q ≤ hi ∨ jQ (N.c k) (N.c n) = 0 := by
        by_cases h : jQ (N.c k) (N.c n) = 0
        · exact .inr h
        · exact .inl (q3 h).2
      have hs5 : ∀ t n' : Nat, t < s + 1 → beside m.wide m.high k t = n' → jQ (N.c k) (N.c n') ≤ σ + jQ (N.c k) (N.c n) := by
        intro t n' ht hb'
        by_cases e : t = s
        · subst e
          have : n' = n := by omega
          subst this
          have := S.s0
          grind
        · have := S.s5 t n' (by omega) hb'
          grind
      obtain ⟨j, hjj⟩ : ∃ j, jQ (N.c k) (N.c n) = j := ⟨_, rfl⟩
      rw [hjj] at hj hj3 hj0 hJ hlo hhi hs5
      clear hjj
      obtain ⟨a', x', A1, A2, A3, A4, A5, A6, A7⟩ := add_part S.ra hJ hq hj hj3 S.s0 hσ9 hs0 hs3 hΓ0 hΓ8 h1 h2 hH hH2 q1 q2 hlo hhi S.x1 S.x2 S.x3 S.x4 S.e1 S.e2
      obtain ⟨l', L1, L2, L3, L4⟩ := add_joint S.rl hJ hj hj3 S.s0 hσ9 hs0 hs3 S.e3 S.e4
      refine ⟨a', l', σ + j, x', by rw [abv_yes hn2]; exact A1, by rw [blw_yes hn2]; exact L1, by have := S.s0; grind, by rw [hcast]; have := S.s3; grind, ?_, ?_, ?_, A2, A3, A4, A5, by rw [hcast]; exact A6, by rw [hcast]; exact A7, by rw [hcast]; exact L3, by rw [hcast]; exact L4⟩
      · have := S.s0
        rcases S.s4 with h | h
        · rcases hj with h' | h'
          · exact .inl (by grind)
          · exact .inr (by grind)
        · exact .inr (by grind)
      · exact hs5
      · intro h
        have := S.s0
        have hjz : j = 0 := by grind
        rw [L2 hjz]
        exact S.l0 (by grind)
    · have hm1 : beside m.wide m.high k s = -1 := by have := (beside_lt m.wide m.high k s hk.1 hsz.1.2 hsz.2.2).2; omega
      have hse : (s : Rat) * (Γ + H * σ) ≤ ((s : Rat) + 1) * (Γ + H * σ) := by
        have := Rat.mul_nonneg (show (0 : Rat) ≤ H by grind) S.s0
        grind
      have hse2 : (s : Rat) * σ ≤ ((s : Rat) + 1) * σ := by have := S.s0; grind
      have := S.s3
      have := S.e1
      have := S.e2
      have := S.e3
      have := S.e4
      exact ⟨a, l, σ, x, by rw [abv_no hm1]; exact S.ra, by rw [blw_no hm1]; exact S.rl, S.s0, by rw [hcast]; grind, S.s4, fun t n ht hb' => S.s5 t n (by rcases Nat.lt_or_eq_of_le (Nat.le_of_lt_succ ht) with h | h; exact h; subst h; omega) hb', S.l0, S.x1, S.x2, S.x3, S.x4, by rw [hcast]; grind, by rw [hcast]; grind, by rw [hcast]; grind, by rw [hcast]; grind⟩

theorem div_le {a l C : Rat} (hl : 0 < l) (h : a ≤ C * l) : a / l ≤ C := Rat.le_of_mul_le_mul_right (c := l) (by rw [Rat.div_mul_cancel (by grind)]; exact h) hl
theorem le_div {a l C : Rat} (hl : 0 < l) (h : C * l ≤ a) : C ≤ a / l := Rat.le_of_mul_le_mul_right (c := l) (by rw [Rat.div_mul_cancel (by grind)]; exact h) hl
theorem head_old {m : M} {k : Nat} (h : fixB m.fixed k = true ∨ feq (blw m k 4) (some 0) = true) : head m k = m.h k := by
  unfold head
  rcases h with h | h
  · rw [h]; rfl
  · rw [h, Bool.or_true]; rfl
theorem head_new {m : M} {k : Nat} (h : fixB m.fixed k = false) (h' : feq (blw m k 4) (some 0) = false) : head m k = fdiv (abv m k 4) (blw m k 4) := by
  unfold head
  rw [h, h']; rfl
/-- A settled head is not much greater than those of which it is made. -/
theorem head_bound {m : M} (N : CG m) (hsz : sized m) {k : Nat} (hk : IsCell m k) {H q0 : Rat} (hH : 1 ≤ H) (hH2 : H ≤ 100000) (h0 : RV (m.h k) q0) (h01 : q0 ≤ H) (h02 : -q0 ≤ H) (hb : Beside m N k H (-H) H) :
    ∃ q, RV (head m k) q ∧ q ≤ H + 33 ∧ -q ≤ H + 33 := by
  have hg := N.gr k
  have g1 := quart_le (show N.g k ≤ 32 by omega)
  have g2 := quart_le (show -32 ≤ N.g k by omega)
  have e1 : quart 32 = 8 := by decide +kernel
  have e2 : quart (-32) = -8 := by decide +kernel
  rw [e1] at g1
  rw [e2] at g2
  obtain ⟨a, l, σ, x, S⟩ := sums_any N hsz hk (N.rvg hk) (Γ := 8) (by decide) (by decide) g1 (by grind) hH hH2 hb 4 (Nat.le_refl _)
  cases hfx : fixB m.fixed k
  · cases hbl : feq (blw m k 4) (some 0)
    · rw [head_new hfx hbl]
      rw [S.rl.eq rv_zero] at hbl
      have hl0 : l ≠ 0 := of_decide_eq_false hbl
      have hσ : 1 / 4 ≤ σ := by
        rcases S.s4 with h | h
        · exact absurd (S.l0 h) hl0
        · exact h
      have c4 : ((4 : Nat) : Rat) = 4 := rfl
      have x1 := S.x3
      have x2 := S.x4
      have y1 := S.e1
      have y2 := S.e2
      have y4 := S.e4
      have s3 := S.s3
      rw [c4] at y1 y2 y4 s3
      have hl : 0 < l := by grind
      have hHσ : H * σ ≤ 100000 * σ := Rat.mul_le_mul_of_nonneg_right hH2 (by grind)
      have hll : (H + 65 / 2) * (σ - 4 * σ / 4000000) ≤ (H + 65 / 2) * l := Rat.mul_le_mul_of_nonneg_left (by grind) (by grind)
      have d1 : a / l ≤ H + 65 / 2 := div_le hl (by grind)
      have d2 : -(H + 65 / 2) ≤ a / l := le_div hl (by grind)
      obtain ⟨q, hq, hn, _, _⟩ := S.ra.div S.rl hl (by grind) (by grind)
      obtain ⟨n1, n2⟩ := hn (H + 65 / 2) d1 (by grind)
      have hu := uQ_big
      exact ⟨q, hq, by grind, by grind⟩
    · rw [head_old (.inr hbl)]
      exact ⟨q0, h0, by grind, by grind⟩
  · rw [head_old (.inl hfx)]
    exact ⟨q0, h0, by grind, by grind⟩
/-- Without a gain it lies between those beside it, nearly. -/
theorem head_mid {m : M} (N : Nums m) (hsz : sized m) {k : Nat} (hk : IsCell m k) (hfx : fixB m.fixed k = false) (hg : N.g k = 0) {za zb : Int} (ha : 8 ≤ za) (hbz : zb ≤ 72)
    (hb : ∀ s n : Nat, s < 4 → beside m.wide m.high k s = n → jQ (N.c k) (N.c n) ≠ 0 → za ≤ N.h n ∧ N.h n ≤ zb) (h0 : (∀ s n : Nat, s < 4 → beside m.wide m.high k s = n → jQ (N.c k) (N.c n) = 0) → za ≤ N.h k ∧ N.h k ≤ zb) :
    ∃ q, RV (head m k) q ∧ quart za - 1 / 2000 ≤ q ∧ q ≤ quart zb + 1 / 2000 := by
  have e72 : quart 72 = 18 := by decide +kernel
  have e0 : quart 0 = 0 := by decide +kernel
  have e8 : quart 8 = 2 := by decide +kernel
  have hza := quart_le ha
  have hzb := quart_le hbz
  rw [e8] at hza
  rw [e72] at hzb
  have hγ := N.cg.rvg hk
  have hB : Beside m N.cg k 18 (quart za) (quart zb) := by
    intro s n hs hn
    have hcn := beside_cell hsz hk.1 hn
    have h1 := N.hr n
    have a1 := quart_le (show N.h n ≤ 72 by omega)
    have a2 := quart_le (show 8 ≤ N.h n by omega)
    rw [e72] at a1
    rw [e8] at a2
    exact ⟨_, N.rvh hcn, by grind, by grind, fun hj => by obtain ⟨k1, k2⟩ := hb s n hs hn hj; exact ⟨quart_le k1, quart_le k2⟩⟩
  obtain ⟨a, l, σ, x, S⟩ := sums_any N.cg hsz hk (γ := 0) (Γ := 0) (H := 18) (by have : N.cg.g k = 0 := hg; rw [this, e0] at hγ; exact hγ) (by decide) (by decide) (by decide) (by decide) (by decide) (by decide) hB 4 (Nat.le_refl _)
  cases hbl : feq (blw m k 4) (some 0)
  · rw [head_new hfx hbl]
    rw [S.rl.eq rv_zero] at hbl
    have hl0 : l ≠ 0 := of_decide_eq_false hbl
    have hσ : 1 / 4 ≤ σ := by
      rcases S.s4 with h | h
      · exact absurd (S.l0 h) hl0
      · exact h
    have c4 : ((4 : Nat) : Rat) = 4 := rfl
    have x1 := S.x1
    have x2 := S.x2
    have y1 := S.e1
    have y2 := S.e2
    have y3 := S.e3
    have y4 := S.e4
    rw [c4] at y1 y2 y3 y4
    have hl : 0 < l := by grind
    have s0 := S.s0
    have hzb0 : 0 ≤ quart zb + 1 / 4000 := by
      by_cases h : za ≤ zb
      · have := quart_le h; grind
      · exfalso
        refine hl0 (S.l0 ?_)
        have : ∀ s n : Nat, s < 4 → beside m.wide m.high k s = n → jQ (N.c k) (N.c n) = 0 := by
          intro s n hs hn
          by_cases hj : jQ (N.c k) (N.c n) = 0
          · exact hj
          · have := hb s n hs hn hj; omega
        have := h0 this
        omega
    have m1 : quart zb * σ ≤ 18 * σ := Rat.mul_le_mul_of_nonneg_right hzb s0
    have m2 : 2 * σ ≤ quart za * σ := Rat.mul_le_mul_of_nonneg_right hza s0
    have l1 : (quart zb + 1 / 4000) * (σ - 4 * σ / 4000000) ≤ (quart zb + 1 / 4000) * l := Rat.mul_le_mul_of_nonneg_left (by grind) hzb0
    have l2 : (quart za - 1 / 4000) * l ≤ (quart za - 1 / 4000) * (σ + 4 * σ / 4000000) := Rat.mul_le_mul_of_nonneg_left (by grind) (by grind)
    have xz : x ≤ 18 * σ := S.x3
    have m3 : quart za * σ ≤ 18 * σ := by grind
    have d1 : a / l ≤ quart zb + 1 / 4000 := div_le hl (by grind)
    have d2 : quart za - 1 / 4000 ≤ a / l := le_div hl (by grind)
    obtain ⟨q, hq, hn, _, _⟩ := S.ra.div S.rl hl (by grind) (by grind)
    obtain ⟨n1, n2⟩ := hn 19 (by grind) (by grind)
    have hu := uQ_big
    exact ⟨q, hq, by grind, by grind⟩
  · rw [head_old (.inr hbl)]
    have hj : ∀ s n : Nat, s < 4 → beside m.wide m.high k s = n → jQ (N.c k) (N.c n) = 0 := by
      intro s n hs hn
      rw [S.rl.eq rv_zero] at hbl
      have hl0 : l = 0 := of_decide_eq_true hbl
      have hσ0 : σ = 0 := by
        rcases S.s4 with h | h
        · exact h
        · exfalso
          have y4 := S.e4
          have c4 : ((4 : Nat) : Rat) = 4 := rfl
          rw [c4] at y4
          grind
      have h1 := S.s5 s n hs hn
      have h2 := jQ_nonneg (N.cr k) (N.cr n)
      rw [hσ0] at h1
      exact Rat.le_antisymm h1 h2
    obtain ⟨k1, k2⟩ := h0 hj
    have := quart_le k1
    have := quart_le k2
    exact ⟨_, N.rvh hk, by grind, by grind⟩
end Go.Proofs.Ytfcphfdfpjmgiaa
