/- The law on brines: its plain part. -/
import Derived.Test.YtfcphfdfpjmgiaaDecY
import Derived.Test.YtfcphfdfpjmgiaaBrSafe
import Derived.Test.YtfcphfdfpjmgiaaBrSm
import Derived.Test.YtfcphfdfpjmgiaaBrX
namespace Go.Proofs.Ytfcphfdfpjmgiaa
open Go.RowKit

theorem jQ_commB {a c : Nat} (ha : a ≤ 12) (hc : c ≤ 12) : jQ a c = jQ c a := by
  unfold jQ; rw [(jval ha hc).2.2.2.2.2]
/-- The side opposite. -/
theorem beside_backB {W H : Int} {k s n : Nat} (hk : k < 64) (hW : W ≤ 8) (hs : s < 4) (hh : hasB W H k = true) (h : beside W H k s = n) : beside W H n ((s + 2) % 4) = k := by
  have e : s = 0 ∨ s = 1 ∨ s = 2 ∨ s = 3 := by omega
  unfold hasB at hh
  rw [Bool.and_eq_true] at hh
  have h1 := of_decide_eq_true hh.1
  have h2 := of_decide_eq_true hh.2
  rcases e with rfl | rfl | rfl | rfl
  all_goals
    unfold beside at h ⊢
    simp only [Nat.reduceAdd, Nat.reduceMod] at h ⊢
    simp [besideXY] at h ⊢
    split at h
    · (first | omega | (split; (first | omega | (exfalso; omega)); (first | omega | (exfalso; omega))))
    · (first | omega | (split; (first | omega | (exfalso; omega)); (first | omega | (exfalso; omega))))

theorem rv_16 : RV (some 1031798784) (1 / 16) := RV.of (v := (2 ^ 145 : Nat)) (by decide +kernel) (by decide +kernel)
theorem rv_m16 : RV (some 3179282432) (-1 / 16) := RV.of (v := -((2 ^ 145 : Nat) : Int)) (by decide +kernel) (by decide +kernel)
theorem rv_48 : RV (some 1111490560) 48 := RV.of (v := 48 * (2 ^ 149 : Nat)) (by decide +kernel) (by decide +kernel)
theorem rv_m48 : RV (some 3258974208) (-48) := RV.of (v := -48 * ((2 ^ 149 : Nat) : Int)) (by decide +kernel) (by decide +kernel)
theorem rv_two : RV (some 1073741824) 2 := RV.of (v := 2 * (2 ^ 149 : Nat)) (by decide +kernel) (by decide +kernel)
theorem rv_one : RV (some 1065353216) 1 := RV.of (v := (2 ^ 149 : Nat)) (by decide +kernel) (by decide +kernel)

/-- A float is an exact number, nearly. -/
def Rl (f P : Rat) : Prop := (0 ≤ P → P * (999999 / 1000000) ≤ f ∧ f ≤ P * (1000001 / 1000000)) ∧ (P ≤ 0 → P * (1000001 / 1000000) ≤ f ∧ f ≤ P * (999999 / 1000000))
/-- The exact flow. -/
def exF {m : M} (N : Nums m) (k n : Nat) : Rat := jQ (N.c k) (N.c n) * quart (N.h k - N.h n)
theorem quart_neg (z : Int) : quart (-z) = -quart z := by
  unfold quart
  rw [Rat.intCast_neg]; grind
theorem exF_neg {m : M} (N : Nums m) (k n : Nat) : exF N n k = -exF N k n := by
  unfold exF
  rw [jQ_commB (N.cr n) (N.cr k), show N.h n - N.h k = -(N.h k - N.h n) by omega, quart_neg]; grind
theorem exF_cases {m : M} (N : Nums m) (k n : Nat) : (exF N k n = 0 ∨ 1 / 16 ≤ exF N k n ∨ exF N k n ≤ -1 / 16) ∧ exF N k n ≤ 48 ∧ -48 ≤ exF N k n := by
  have hj0 := jQ_nonneg (N.cr k) (N.cr n)
  have hj1 := jQ_le (N.cr k) (N.cr n)
  have a1 := N.hr k
  have a2 := N.hr n
  have b1 := quart_le (show N.h k - N.h n ≤ 64 by omega)
  have b2 := quart_le (show -64 ≤ N.h k - N.h n by omega)
  have e1 : quart 64 = 16 := by decide +kernel
  have e2 : quart (-64) = -16 := by decide +kernel
  rw [e1] at b1
  rw [e2] at b2
  have hm1 := Rat.mul_le_mul_of_nonneg_left b1 hj0
  have hm2 := Rat.mul_le_mul_of_nonneg_left b2 hj0
  refine ⟨?_, by unfold exF; grind, by unfold exF; grind⟩
  by_cases hz : N.c k = 0 ∨ N.c n = 0
  · left
    unfold exF
    rw [jQ_zero (N.cr k) (N.cr n) hz]; grind
  · have hj := jQ_pos (N.cr k) (N.cr n) (fun h => hz (.inl h)) (fun h => hz (.inr h))
    rcases Int.lt_trichotomy (N.h k - N.h n) 0 with h | h | h
    · right; right
      have b3 := quart_le (show N.h k - N.h n ≤ -1 by omega)
      have e3 : quart (-1) = -1 / 4 := by decide +kernel
      rw [e3] at b3
      have h1 := Rat.mul_le_mul_of_nonneg_left b3 hj0
      unfold exF; grind
    · left
      have e3 : quart 0 = 0 := by decide +kernel
      unfold exF
      rw [h, e3]; grind
    · right; left
      have b3 := quart_le (show 1 ≤ N.h k - N.h n by omega)
      have e3 : quart 1 = 1 / 4 := by decide +kernel
      rw [e3] at b3
      have h1 := Rat.mul_le_mul_of_nonneg_left b3 hj0
      unfold exF; grind
theorem flow_at {m : M} (N : Nums m) (hs : sized m) {k n s : Nat} (hk : IsCell m k) (hb : beside m.wide m.high k s = n) :
    ∃ f, RV (flow m k s) f ∧ -48 ≤ f ∧ f ≤ 48 ∧ (f = 0 ∨ 1 / 16 ≤ f ∨ f ≤ -1 / 16) ∧ Rl f (exF N k n) := by
  have hn := beside_cell hs hk.1 hb
  obtain ⟨hc, h1, h2⟩ := exF_cases N k n
  obtain ⟨r, hr, hnr, h3, h4⟩ := (N.rvj hk hn).mul (N.rvd hk hn) (by show exF N k n ≤ _; grind) (by show -exF N k n ≤ _; grind)
  have hnr : Near r (exF N k n) := hnr
  have h3 : ∀ z s, RV z s → exF N k n ≤ s → r ≤ s := h3
  have h4 : ∀ z s, RV z s → s ≤ exF N k n → s ≤ r := h4
  have hfl : RV (flow m k s) r := by
    unfold flow
    rw [if_neg (by omega), hb, Int.toNat_natCast]
    exact hr
  have u1 := h3 _ _ rv_48 h1
  have u2 := h4 _ _ rv_m48 h2
  have hu := uQ_big
  generalize exF N k n = P at *
  refine ⟨r, hfl, u2, u1, ?_, ?_⟩
  · rcases hc with h | h | h
    · left
      exact Rat.le_antisymm (h3 _ _ rv_zero (by grind)) (h4 _ _ rv_zero (by grind))
    · right; left; exact h4 _ _ rv_16 h
    · right; right; exact h3 _ _ rv_m16 h
  · rcases hc with h | h | h
    · have e : r = 0 := Rat.le_antisymm (h3 _ _ rv_zero (by grind)) (h4 _ _ rv_zero (by grind))
      unfold Rl
      rw [e, h]
      constructor <;> intro _ <;> constructor <;> grind
    · obtain ⟨n1, n2⟩ := hnr P (by grind) (by grind)
      unfold Rl
      constructor
      · intro _; constructor <;> grind
      · intro _; exfalso; grind
    · obtain ⟨n1, n2⟩ := hnr (-P) (by grind) (by grind)
      unfold Rl
      constructor
      · intro _; exfalso; grind
      · intro _; constructor <;> grind
theorem flow_no {m : M} {k s : Nat} (h : beside m.wide m.high k s < 0) : flow m k s = some 0 := by unfold flow; rw [if_pos h]

/-! What goes out. -/
theorem add_up {x y : F} {p q B : Rat} (hx : RV x p) (hy : RV y q) (p0 : 0 ≤ p) (q0 : 0 ≤ q) (hB : p + q ≤ B) (hB1 : B ≤ 100000000) :
    ∃ r, RV (fadd x y) r ∧ p ≤ r ∧ q ≤ r ∧ r ≤ p + q + B / 8388608 + 1 / 1000000000000 ∧ p + q - B / 8388608 - 1 / 1000000000000 ≤ r := by
  obtain ⟨r, hr, hn, h3, h4⟩ := hx.add hy (by grind) (by grind)
  obtain ⟨n1, n2⟩ := hn B hB (by grind)
  have hu := uQ_big
  exact ⟨r, hr, h4 _ _ hx (by grind), h4 _ _ hy (by grind), by grind, by grind⟩
theorem outTo_q {m : M} (N : Nums m) (hs : sized m) {k : Nat} (hk : IsCell m k) : ∀ n, n ≤ 4 → ∃ o, RV (outTo m k n) o ∧ 0 ≤ o ∧ o ≤ 49 * ((n : Nat) : Rat) ∧ (o = 0 ∨ 1 / 16 ≤ o) ∧ ∀ s, s < n → ∀ f, RV (flow m k s) f → f ≤ o := by
  intro n
  induction n with
  | zero => intro _; exact ⟨0, rv_zero, by grind, by grind, .inl rfl, fun s hs => absurd hs (by omega)⟩
  | succ n ih =>
    intro hn
    obtain ⟨o, ho, o0, o1, o2, o3⟩ := ih (by omega)
    have hnR : ((n : Nat) : Rat) ≤ 4 := by
      have : ((n : Int) : Rat) ≤ ((4 : Int) : Rat) := Rat.intCast_le_intCast.2 (by omega)
      exact this
    have hnS : (((n + 1 : Nat) : Nat) : Rat) = (n : Rat) + 1 := by push_cast; rfl
    have hf : ∃ f, RV (flow m k n) f ∧ f ≤ 48 ∧ (f ≤ 0 ∨ 1 / 16 ≤ f) := by
      by_cases hb : beside m.wide m.high k n < 0
      · rw [flow_no hb]; exact ⟨0, rv_zero, by grind, .inl (by grind)⟩
      · obtain ⟨c, hc⟩ : ∃ c : Nat, beside m.wide m.high k n = c := ⟨(beside m.wide m.high k n).toNat, by omega⟩
        obtain ⟨f, f1, f2, f3, f4, _⟩ := flow_at N hs hk hc
        refine ⟨f, f1, f3, ?_⟩
        rcases f4 with h | h | h
        · left; grind
        · right; exact h
        · left; grind
    obtain ⟨f, f1, f2, f3⟩ := hf
    rw [hnS]
    by_cases hp : 0 < f
    · have hg : fgt (flow m k n) (some 0) = true := by rw [f1.gt rv_zero]; exact decide_eq_true hp
      rw [outTo_yes hg]
      obtain ⟨r, r1, r2, r3, r4, _⟩ := add_up (B := 300) ho f1 o0 (by grind) (by grind) (by grind)
      refine ⟨r, r1, by grind, by grind, .inr ?_, fun s hs f' hf' => ?_⟩
      · rcases f3 with h | h
        · exfalso; grind
        · grind
      · by_cases e : s = n
        · subst e
          rw [hf'.inj f1]; exact r3
        · exact Rat.le_trans (o3 s (by omega) f' hf') r2
    · have hg : fgt (flow m k n) (some 0) = false := by rw [f1.gt rv_zero]; exact decide_eq_false hp
      rw [outTo_no hg]
      refine ⟨o, ho, o0, by grind, o2, fun s hs f' hf' => ?_⟩
      by_cases e : s = n
      · subst e
        rw [hf'.inj f1]; grind
      · exact o3 s (by omega) f' hf'
theorem out_q {m : M} (N : Nums m) (hs : sized m) {k : Nat} (hk : IsCell m k) : ∃ o, RV (outF m k) o ∧ 0 ≤ o ∧ o ≤ 220 ∧ (o = 0 ∨ 1 / 16 ≤ o) ∧ ∀ s, s < 4 → ∀ f, RV (flow m k s) f → f ≤ o := by
  obtain ⟨o, ho, o0, o1, o2, o3⟩ := outTo_q N hs hk 4 (by omega)
  have o1 : o ≤ 49 * 4 := o1
  have hg := N.rvg hk
  have gr := N.gr k
  have b1 := quart_le gr.2
  have b2 := quart_le gr.1
  have e1 : quart 32 = 8 := by decide +kernel
  have e2 : quart (-32) = -8 := by decide +kernel
  rw [e1] at b1
  rw [e2] at b2
  by_cases h : quart (N.g k) < 0
  · have hl : flt (m.g k) (some 0) = true := by rw [hg.lt rv_zero]; exact decide_eq_true h
    rw [outF_yes hl]
    have hz : N.g k ≤ -1 := by
      rcases Int.lt_or_le (N.g k) 0 with h1 | h1
      · omega
      · exfalso
        have := quart_le h1
        have e0 : quart 0 = 0 := by decide +kernel
        rw [e0] at this
        grind
    have b3 := quart_le hz
    have e3 : quart (-1) = -1 / 4 := by decide +kernel
    rw [e3] at b3
    obtain ⟨r, r1, r2, r3, r4, _⟩ := add_up (B := 300) ho (hg.opp (by grind) (by grind)) o0 (by grind) (by grind) (by grind)
    exact ⟨r, r1, by grind, by grind, .inr (by grind), fun s hs f hf => Rat.le_trans (o3 s hs f hf) r2⟩
  · have hl : flt (m.g k) (some 0) = false := by rw [hg.lt rv_zero]; exact decide_eq_false h
    rw [outF_no hl]
    exact ⟨o, ho, o0, by grind, o2, o3⟩

/-! A safe step. -/
theorem step_q {x y : F} {o R : Rat} (hx : RV x o) (hy : RV y R) (o1 : 1 / 16 ≤ o) (o2 : o ≤ 220) (R1 : 1 ≤ R) (R2 : R ≤ 200) :
    ∃ q, RV (fdiv y (fmul (some 1073741824) x)) q ∧ 0 ≤ q ∧ q ≤ 2000 ∧ q * o ≤ R / 2 * (1000001 / 1000000) := by
  have hu := uQ_big
  obtain ⟨r, hr, hn, _, _⟩ := rv_two.mul hx (by grind) (by grind)
  obtain ⟨n1, n2⟩ := hn (2 * o) (by grind) (by grind)
  have r1 : 2 * o * (9999998 / 10000000) ≤ r := by grind
  have r0 : 1 / 9 ≤ r := by grind
  have hrp : 0 < r := by grind
  have hre : R / r * r = R := Rat.div_mul_cancel (by grind)
  generalize he : R / r = e at *
  have e0 : 0 ≤ e := by
    rw [← he]
    refine Rat.le_of_mul_le_mul_right (c := r) ?_ hrp
    rw [Rat.zero_mul, he, hre]; grind
  have e1 : e ≤ 1800 := by
    refine Rat.le_of_mul_le_mul_right (c := r) ?_ hrp
    rw [hre]; grind
  obtain ⟨q, hq, hqn, q0, _⟩ := hy.div hr hrp (by rw [he]; grind) (by rw [he]; grind)
  rw [he] at hqn
  obtain ⟨m1, m2⟩ := hqn e (by grind) (by grind)
  have q00 := q0 (by grind)
  have k1 : e * (2 * o * (9999998 / 10000000)) ≤ e * r := Rat.mul_le_mul_of_nonneg_left r1 e0
  have k2 : q * o ≤ (e + e / 8388608 + 1 / 1000000000000) * o := Rat.mul_le_mul_of_nonneg_right (by grind) (by grind)
  refine ⟨q, hq, q00, by grind, ?_⟩
  have k3 : (e + e / 8388608 + 1 / 1000000000000) * o = e * o + e * o / 8388608 + o / 1000000000000 := by grind
  have k4 : e * (2 * o * (9999998 / 10000000)) = e * o * (9999998 / 5000000) := by grind
  rw [k3] at k2
  rw [k4] at k1
  generalize e * o = X at *
  grind
/-- A step that is safe for some cells. -/
structure SafeT (n : N) (T R : Rat) (l : List Nat) : Prop where
  t0 : 0 ≤ T
  t1 : T ≤ 2000
  t8 : T ≤ R * (8000008 / 1000000)
  all : ∀ c ∈ l, ∀ o, RV (outF n.g c) o → T * o ≤ R / 2 * (1000001 / 1000000)
theorem safe_q {n : N} (N : Nums n.g) (hs : sized n.g) {R : Rat} (hR : RV n.room R) (R1 : 1 ≤ R) (R2 : R ≤ 200) : ∀ l : List Nat, (∀ c ∈ l, IsCell n.g c) →
    ((safeF n l).2 = false ∧ ∀ c ∈ l, RV (outF n.g c) 0) ∨ ((safeF n l).2 = true ∧ ∃ T, RV (safeF n l).1 T ∧ SafeT n T R l) := by
  refine snoc_ind (P := fun l => (∀ c ∈ l, IsCell n.g c) → ((safeF n l).2 = false ∧ ∀ c ∈ l, RV (outF n.g c) 0) ∨ ((safeF n l).2 = true ∧ ∃ T, RV (safeF n l).1 T ∧ SafeT n T R l)) (fun _ => .inl ⟨rfl, fun c h => by cases h⟩) ?_
  intro l c ih hl
  have ih := ih fun d hd => hl d (by simp [hd])
  obtain ⟨o, ho, o0, o1, o2, _⟩ := out_q N hs (hl c (by simp))
  rw [safeF_snoc]
  rcases o2 with h | h
  · subst h
    have hg : fgt (outF n.g c) (some 0) = false := by rw [ho.gt rv_zero]; exact decide_eq_false (by grind)
    rw [safe_none hg]
    rcases ih with ⟨i1, i2⟩ | ⟨i1, T, hT, i2⟩
    · refine .inl ⟨i1, fun d hd => ?_⟩
      rcases List.mem_append.1 hd with h1 | h1
      · exact i2 d h1
      · rw [List.mem_singleton.1 h1]; exact ho
    · refine .inr ⟨i1, T, hT, i2.t0, i2.t1, i2.t8, fun d hd o' ho' => ?_⟩
      rcases List.mem_append.1 hd with h1 | h1
      · exact i2.all d h1 o' ho'
      · rw [List.mem_singleton.1 h1] at ho'
        rw [ho'.inj ho]; grind
  · have hg : fgt (outF n.g c) (some 0) = true := by rw [ho.gt rv_zero]; exact decide_eq_true (by grind)
    obtain ⟨q, hq, q0, q1, q2⟩ := step_q ho hR h o1 R1 R2
    have hq : RV (stepF n c) q := hq
    have q8 : q ≤ R * (8000008 / 1000000) := by
      have := Rat.mul_le_mul_of_nonneg_left h q0
      grind
    rcases ih with ⟨i1, i2⟩ | ⟨i1, T, hT, i2⟩
    · rw [safe_first hg i1]
      refine .inr ⟨rfl, q, hq, q0, q1, q8, fun d hd o' ho' => ?_⟩
      rcases List.mem_append.1 hd with h1 | h1
      · rw [ho'.inj (i2 d h1)]; grind
      · rw [List.mem_singleton.1 h1] at ho'
        rw [ho'.inj ho]; exact q2
    · by_cases hlt : q < T
      · rw [safe_less hg (by rw [hq.lt hT]; exact decide_eq_true hlt)]
        refine .inr ⟨rfl, q, hq, q0, q1, q8, fun d hd o' ho' => ?_⟩
        rcases List.mem_append.1 hd with h1 | h1
        · obtain ⟨o3, k1, k2, _⟩ := out_q N hs (hl d (by simp [h1]))
          have := ho'.inj k1
          subst this
          have a1 := i2.all d h1 o' ho'
          have a2 := Rat.mul_le_mul_of_nonneg_right (Rat.le_of_lt hlt) k2
          exact Rat.le_trans a2 a1
        · rw [List.mem_singleton.1 h1] at ho'
          rw [ho'.inj ho]; exact q2
      · rw [safe_more hg i1 (by rw [hq.lt hT]; exact decide_eq_false hlt)]
        refine .inr ⟨i1, T, hT, i2.t0, i2.t1, i2.t8, fun d hd o' ho' => ?_⟩
        rcases List.mem_append.1 hd with h1 | h1
        · exact i2.all d h1 o' ho'
        · rw [List.mem_singleton.1 h1] at ho'
          rw [ho'.inj ho]
          have := Rat.mul_le_mul_of_nonneg_right (Rat.not_lt.1 hlt) o0
          exact Rat.le_trans this q2
/-- The part that a cell loses. -/
theorem part_q {n : N} {t : F} {T R o : Rat} {c : Nat} (ht : RV t T) (hR : RV n.room R) (ho : RV (outF n.g c) o) (t0 : 0 ≤ T) (o0 : 0 ≤ o) (R1 : 1 ≤ R) (R2 : R ≤ 200) (hT : T * o ≤ R / 2 * (1000001 / 1000000)) :
    ∃ p, RV (partF n c t) p ∧ 0 ≤ p ∧ p ≤ 3 / 4 := by
  have hu := uQ_big
  have h0 : 0 ≤ T * o := Rat.mul_nonneg t0 o0
  obtain ⟨r, hr, hn, h3, h4⟩ := ht.mul ho (by grind) (by grind)
  obtain ⟨n1, n2⟩ := hn (T * o) (by grind) (by grind)
  have r0 := h4 _ _ rv_zero h0
  have r1 : r ≤ R * (6 / 10) := by grind
  have hRp : 0 < R := by grind
  have hre : r / R * R = r := Rat.div_mul_cancel (by grind)
  generalize he : r / R = e at *
  have e0 : 0 ≤ e := by
    refine Rat.le_of_mul_le_mul_right (c := R) ?_ hRp
    rw [Rat.zero_mul, hre]; exact r0
  have e1 : e ≤ 6 / 10 := by
    refine Rat.le_of_mul_le_mul_right (c := R) ?_ hRp
    rw [hre]; grind
  obtain ⟨q, hq, hqn, q0, _⟩ := hr.div hR hRp (by rw [he]; grind) (by rw [he]; grind)
  rw [he] at hqn
  obtain ⟨m1, m2⟩ := hqn 1 (by grind) (by grind)
  exact ⟨q, hq, q0 r0, by grind⟩
end Go.Proofs.Ytfcphfdfpjmgiaa

namespace Go.Proofs.Ytfcphfdfpjmgiaa
open Go.RowKit

/-- What is known of a brine in the course of the steps. -/
structure Crs (b : N) (t : F) (T R : Rat) : Prop where
  ok : okI b.g = true
  nums : Nonempty (Nums b.g)
  tv : RV t T
  rv : RV b.room R
  r1 : 1 ≤ R
  r2 : R ≤ 200
  safe : SafeT b T R (freeL b.g 64)
  s0 : ∀ k, k < 64 → hasB b.g.wide b.g.high k = false → b.s k = some 0
  sp : ∀ k, IsCell b.g k → ∃ q, RV (b.s k) q ∧ 0 ≤ q ∧ q ≤ 1000000
  sf : ∀ k, IsCell b.g k → fixB b.g.fixed k = true → ∃ q, RV (b.s k) q ∧ 0 ≤ q ∧ q ≤ 39 / 4
  p1 : ∀ k, IsCell b.g k → ∃ q, RV (b.p k) q ∧ 0 ≤ q ∧ q ≤ 11 / 4
  p0 : ∀ k, k < 64 → hasB b.g.wide b.g.high k = false → b.p k = some 0
theorem free64 {m : M} {k : Nat} : k ∈ freeL m 64 ↔ IsCell m k ∧ fixB m.fixed k = false := by
  unfold freeL
  rw [List.mem_filter]
  constructor
  · rintro ⟨h1, h2⟩
    exact ⟨mem_cellsS.1 h1, by simpa using h2⟩
  · rintro ⟨h1, h2⟩
    exact ⟨mem_cellsS.2 h1, by rw [h2]; rfl⟩

/-! What comes in. -/
theorem near_up {e Z U : Rat} (n1 : e - Z ≤ Z / 8388608 + U) (hu : U ≤ 1 / 1000000000000) : e ≤ Z + Z / 8388608 + 1 / 1000000000000 := by grind
theorem in_num {i e f q T R Y K : Rat} (T0 : 0 ≤ T) (T1 : T ≤ 2000) (R1 : 1 ≤ R) (hY : T * i ≤ R * Y) (hK : T * (f * q) ≤ R * K) (i0 : 0 ≤ i) (fq0 : 0 ≤ f * q) (he : e ≤ f * q + f * q / 8388608 + 1 / 1000000000000) {r : Rat} (hr : r ≤ i + e + (i + e) / 8388608 + 1 / 1000000000000) :
    T * r ≤ R * ((Y + K) * (1000001 / 1000000) + 1 / 1000000) := by
  have k1 := Rat.mul_le_mul_of_nonneg_left hr T0
  have k2 := Rat.mul_le_mul_of_nonneg_left he T0
  have k3 := Rat.mul_nonneg T0 i0
  have k4 := Rat.mul_nonneg T0 fq0
  generalize f * q = Z at *
  have e1 : T * (i + e + (i + e) / 8388608 + 1 / 1000000000000) = T * i + T * e + (T * i + T * e) / 8388608 + T / 1000000000000 := by grind
  have e2 : T * (Z + Z / 8388608 + 1 / 1000000000000) = T * Z + T * Z / 8388608 + T / 1000000000000 := by grind
  have e3 : R * ((Y + K) * (1000001 / 1000000) + 1 / 1000000) = (R * Y + R * K) * (1000001 / 1000000) + R / 1000000 := by grind
  rw [e1] at k1
  rw [e2] at k2
  rw [e3]
  generalize T * i = A at *
  generalize T * e = E at *
  generalize T * Z = W at *
  generalize R * Y = U at *
  generalize R * K = V at *
  generalize T * r = Q at *
  grind
theorem in_step {b : N} {t : F} {T R : Rat} (h : Crs b t T R) {k s : Nat} (hk : IsCell b.g k) {i Y K I : Rat} (hi : RV (inTo b k s) i) (i0 : 0 ≤ i) (i1 : i ≤ I) (hI : I ≤ 200000000) (hY : T * i ≤ R * Y) (K0 : 0 ≤ K) (Y0 : 0 ≤ Y)
    (hK : ∀ c : Nat, beside b.g.wide b.g.high k s = c → ∀ f q, RV (flow b.g k s) f → f < 0 → RV (b.s c) q → 0 ≤ q → T * (-f * q) ≤ R * K) :
    ∃ i', RV (inTo b k (s + 1)) i' ∧ 0 ≤ i' ∧ i' ≤ I + 50000000 ∧ T * i' ≤ R * ((Y + K) * (1000001 / 1000000) + 1 / 1000000) := by
  obtain ⟨N⟩ := h.nums
  have hs := sized_of h.ok
  have hm : R * Y ≤ R * ((Y + K) * (1000001 / 1000000) + 1 / 1000000) := Rat.mul_le_mul_of_nonneg_left (by grind) (by have := h.r1; grind)
  by_cases hb : beside b.g.wide b.g.high k s < 0
  · have hf : flt (flow b.g k s) (some 0) = false := by rw [flow_no hb]; decide
    rw [inTo_no hf]
    exact ⟨i, hi, i0, by grind, Rat.le_trans hY hm⟩
  · obtain ⟨c, hc⟩ : ∃ c : Nat, beside b.g.wide b.g.high k s = c := ⟨(beside b.g.wide b.g.high k s).toNat, by omega⟩
    have hcc := beside_cell hs hk.1 hc
    obtain ⟨f, hf, f1, f2, f3, _⟩ := flow_at N hs hk hc
    by_cases hn : f < 0
    · have hfl : flt (flow b.g k s) (some 0) = true := by rw [hf.lt rv_zero]; exact decide_eq_true hn
      rw [inTo_yes hfl hc]
      obtain ⟨q, hq, q0, q1⟩ := h.sp c hcc
      have hKK := hK c hc f q hf hn hq q0
      have hnf := hf.opp (by grind) (by grind)
      have fq0 : 0 ≤ -f * q := Rat.mul_nonneg (by grind) q0
      have fq1 : -f * q ≤ 48 * 1000000 := by
        have a1 := Rat.mul_le_mul_of_nonneg_left q1 (show 0 ≤ -f by grind)
        have a2 := Rat.mul_le_mul_of_nonneg_right (show -f ≤ 48 by grind) (show (0 : Rat) ≤ 1000000 by decide)
        grind
      have hu := uQ_big
      obtain ⟨e, he, hen, e3, e4⟩ := hnf.mul hq (by grind) (by grind)
      obtain ⟨n1, n2⟩ := hen (-f * q) (by grind) (by grind)
      have e0 := e4 _ _ rv_zero fq0
      obtain ⟨r, hr, hrn, r3, r4⟩ := hi.add he (by grind) (by grind)
      obtain ⟨m1, m2⟩ := hrn (i + e) (by grind) (by grind)
      have r0 := r4 _ _ rv_zero (by grind)
      refine ⟨r, hr, r0, by grind, in_num h.safe.t0 h.safe.t1 h.r1 hY hKK i0 fq0 (near_up n1 hu) (near_up m1 hu)⟩
    · have hfl : flt (flow b.g k s) (some 0) = false := by rw [hf.lt rv_zero]; exact decide_eq_false hn
      rw [inTo_no hfl]
      exact ⟨i, hi, i0, by grind, Rat.le_trans hY hm⟩
def Yn (K : Nat → Rat) : Nat → Rat
  | 0 => 0
  | s + 1 => (Yn K s + K s) * (1000001 / 1000000) + 1 / 1000000
theorem Yn_nonneg {K : Nat → Rat} (h : ∀ s, 0 ≤ K s) : ∀ s, 0 ≤ Yn K s
  | 0 => by show (0 : Rat) ≤ 0; exact Rat.le_refl
  | s + 1 => by
    have h1 := Yn_nonneg h s
    have h2 := h s
    show 0 ≤ (Yn K s + K s) * (1000001 / 1000000) + 1 / 1000000
    generalize Yn K s = A at *
    generalize K s = B at *
    grind
theorem in_q {b : N} {t : F} {T R : Rat} (h : Crs b t T R) {k : Nat} (hk : IsCell b.g k) {K : Nat → Rat} (K0 : ∀ s, 0 ≤ K s)
    (hK : ∀ s, s < 4 → ∀ c : Nat, beside b.g.wide b.g.high k s = c → ∀ f q, RV (flow b.g k s) f → f < 0 → RV (b.s c) q → 0 ≤ q → T * (-f * q) ≤ R * K s) :
    ∃ i, RV (inF b k) i ∧ 0 ≤ i ∧ i ≤ 300000000 ∧ T * i ≤ R * ((Yn K 4 + 177) * (1000001 / 1000000) + 1 / 1000000) := by
  obtain ⟨N⟩ := h.nums
  have s0 : ∃ i, RV (inTo b k 0) i ∧ 0 ≤ i ∧ i ≤ 0 ∧ T * i ≤ R * Yn K 0 := ⟨0, rv_zero, Rat.le_refl, Rat.le_refl, by show T * 0 ≤ R * 0; grind⟩
  have y := Yn_nonneg K0
  obtain ⟨i0, a1, a2, a3, a4⟩ := s0
  obtain ⟨i1, b1, b2, b3, b4⟩ := in_step h hk a1 a2 a3 (by grind) a4 (K0 0) (y 0) (hK 0 (by omega))
  obtain ⟨i2, c1, c2, c3, c4⟩ := in_step (Y := Yn K 1) h hk b1 b2 b3 (by grind) b4 (K0 1) (y 1) (hK 1 (by omega))
  obtain ⟨i3, d1, d2, d3, d4⟩ := in_step (Y := Yn K 2) h hk c1 c2 c3 (by grind) c4 (K0 2) (y 2) (hK 2 (by omega))
  obtain ⟨i4, e1, e2, e3, e4⟩ := in_step (Y := Yn K 3) h hk d1 d2 d3 (by grind) d4 (K0 3) (y 3) (hK 3 (by omega))
  have e4 : T * i4 ≤ R * Yn K 4 := e4
  have y4 := y 4
  have hg := N.rvg hk
  have gr := N.gr k
  have g1 := quart_le gr.2
  have g3 : quart 32 = 8 := by decide +kernel
  rw [g3] at g1
  by_cases hp : 0 < quart (N.g k)
  · have hfl : fgt (b.g.g k) (some 0) = true := by rw [hg.gt rv_zero]; exact decide_eq_true hp
    rw [inF_yes hfl]
    obtain ⟨q, hq, q0, q1⟩ := h.p1 k hk
    have gq0 : 0 ≤ quart (N.g k) * q := Rat.mul_nonneg (by grind) q0
    have gq1 : quart (N.g k) * q ≤ 22 := by
      have u1 := Rat.mul_le_mul_of_nonneg_left q1 (show 0 ≤ quart (N.g k) by grind)
      have u2 := Rat.mul_le_mul_of_nonneg_right g1 (show (0 : Rat) ≤ 11 / 4 by grind)
      grind
    have hu := uQ_big
    have hKK : T * (quart (N.g k) * q) ≤ R * 177 := by
      have u1 := Rat.mul_le_mul_of_nonneg_left gq1 h.safe.t0
      have u2 := h.safe.t8
      have u3 := h.r1
      grind
    obtain ⟨e, he, hen, _, e6⟩ := hg.mul hq (by grind) (by grind)
    obtain ⟨n1, n2⟩ := hen (quart (N.g k) * q) (by grind) (by grind)
    have e0 := e6 _ _ rv_zero gq0
    obtain ⟨r, hr, hrn, r3, r4⟩ := e1.add he (by grind) (by grind)
    obtain ⟨m1, m2⟩ := hrn (i4 + e) (by grind) (by grind)
    have r0 := r4 _ _ rv_zero (by grind)
    exact ⟨r, hr, r0, by grind, in_num h.safe.t0 h.safe.t1 h.r1 e4 hKK e2 gq0 (near_up n1 hu) (near_up m1 hu)⟩
  · have hfl : fgt (b.g.g k) (some 0) = false := by rw [hg.gt rv_zero]; exact decide_eq_false hp
    rw [inF_no hfl]
    refine ⟨i4, e1, e2, by grind, Rat.le_trans e4 (Rat.mul_le_mul_of_nonneg_left (by grind) (by have := h.r1; grind))⟩
/-- A cell's salt behind a step. -/
theorem mv_q {b : N} {t : F} {T R : Rat} (h : Crs b t T R) {k : Nat} (hk : IsCell b.g k) (hf : fixB b.g.fixed k = false) {i Y s : Rat} (hi : RV (inF b k) i) (i0 : 0 ≤ i) (hY : T * i ≤ R * Y) (Y0 : 0 ≤ Y) (Y1 : Y ≤ 10000000) (hsv : RV (b.s k) s) (s0 : 0 ≤ s) (s1 : s ≤ 1000000) :
    ∃ q, RV (mvS b t k) q ∧ 0 ≤ q ∧ q ≤ s + Y + (s + Y) / 1000000 + 1 / 1000000 := by
  obtain ⟨N⟩ := h.nums
  have hu := uQ_big
  obtain ⟨o, ho, o0, o1, _, _⟩ := out_q N (sized_of h.ok) hk
  obtain ⟨p, hp, p0, p1⟩ := part_q h.tv h.rv ho h.safe.t0 o0 h.r1 h.r2 (h.safe.all k (free64.2 ⟨hk, hf⟩) o ho)
  obtain ⟨d, hd, _, d3, d4⟩ := rv_one.sub hp (by grind) (by grind)
  have d0 := d4 _ _ rv_zero (by grind)
  have d1 := d3 _ _ rv_one (by grind)
  have sd0 : 0 ≤ s * d := Rat.mul_nonneg s0 d0
  have sd1 : s * d ≤ s := by have := Rat.mul_le_mul_of_nonneg_left d1 s0; grind
  obtain ⟨k1, hk1, _, k3, k4⟩ := hsv.mul hd (by grind) (by grind)
  have k0 := k4 _ _ rv_zero sd0
  have kk := k3 _ _ hsv sd1
  have Ti0 : 0 ≤ T * i := Rat.mul_nonneg h.safe.t0 i0
  have RY : R * Y ≤ 2000000000 := by
    have u1 := Rat.mul_le_mul_of_nonneg_right h.r2 Y0
    grind
  obtain ⟨r, hr, hrn, r3, r4⟩ := h.tv.mul hi (by grind) (by grind)
  obtain ⟨n1, n2⟩ := hrn (T * i) (by grind) (by grind)
  have r0 := r4 _ _ rv_zero Ti0
  have hRp : 0 < R := by have := h.r1; grind
  have hre : r / R * R = r := Rat.div_mul_cancel (by grind)
  have rb : r ≤ R * (Y + Y / 8388608 + 1 / 1000000000000) := by
    have e1 : R * (Y + Y / 8388608 + 1 / 1000000000000) = R * Y + R * Y / 8388608 + R / 1000000000000 := by grind
    have := h.r1
    rw [e1]
    generalize R * Y = U at *
    generalize T * i = A at *
    grind
  generalize he : r / R = e at *
  have e0 : 0 ≤ e := by
    refine Rat.le_of_mul_le_mul_right (c := R) ?_ hRp
    rw [Rat.zero_mul, hre]; exact r0
  have e1 : e ≤ Y + Y / 8388608 + 1 / 1000000000000 := by
    refine Rat.le_of_mul_le_mul_right (c := R) ?_ hRp
    rw [hre, Rat.mul_comm]; exact rb
  obtain ⟨c, hc, hcn, c0, _⟩ := hr.div h.rv hRp (by rw [he]; grind) (by rw [he]; grind)
  rw [he] at hcn
  obtain ⟨m1, m2⟩ := hcn e (by grind) (by grind)
  have c00 := c0 r0
  obtain ⟨q, hq, hqn, q3, q4⟩ := hk1.add hc (by grind) (by grind)
  obtain ⟨w1, w2⟩ := hqn (k1 + c) (by grind) (by grind)
  exact ⟨q, hq, q4 _ _ rv_zero (by grind), by grind⟩

/-! How salt grows. -/
/-- There is a free cell beside. -/
def HasF (m : M) (k : Nat) : Prop := ∃ s c : Nat, s < 4 ∧ beside m.wide m.high k s = c ∧ fixB m.fixed c = false
structure Cap (b : N) (A B : Rat) : Prop where
  a : ∀ k, IsCell b.g k → fixB b.g.fixed k = false → HasF b.g k → ∃ q, RV (b.s k) q ∧ 0 ≤ q ∧ q ≤ A
  b : ∀ k, IsCell b.g k → fixB b.g.fixed k = false → ¬ HasF b.g k → ∃ q, RV (b.s k) q ∧ 0 ≤ q ∧ q ≤ B
theorem side_free {b : N} {t : F} {T R A B : Rat} (h : Crs b t T R) (hc : Cap b A B) {k s c : Nat} (hs : s < 4) (hk : IsCell b.g k) (hfk : fixB b.g.fixed k = false) (hb : beside b.g.wide b.g.high k s = c) (hf : fixB b.g.fixed c = false) {f q : Rat} (hfl : RV (flow b.g k s) f) (hn : f < 0) (hq : RV (b.s c) q) (q0 : 0 ≤ q) :
    T * (-f * q) ≤ R * (A * (50001 / 100000)) := by
  obtain ⟨N⟩ := h.nums
  have hz := sized_of h.ok
  have hcc := beside_cell hz hk.1 hb
  have hback := beside_backB hk.1 hz.1.2 hs hk.2 hb
  obtain ⟨f', k1, _, _, _, k5⟩ := flow_at N hz hk hb
  have e1 := k1.inj hfl
  subst e1
  obtain ⟨g, l1, _, _, _, l5⟩ := flow_at N hz hcc hback
  rw [exF_neg N k c] at l5
  obtain ⟨o, ho, o0, o1, _, o3⟩ := out_q N hz hcc
  have hgo := o3 _ (by omega) g l1
  have hTo := h.safe.all c (free64.2 ⟨hcc, hf⟩) o ho
  obtain ⟨qa, hqa, _, qa1⟩ := hc.a c hcc hf ⟨(s + 2) % 4, k, by omega, hback, hfk⟩
  have e2 := hqa.inj hq
  subst e2
  have T0 := h.safe.t0
  have hP : exF N k c ≤ 0 := by
    by_cases h1 : 0 ≤ exF N k c
    · have := (k5.1 h1).1; grind
    · grind
  obtain ⟨u1, u2⟩ := k5.2 hP
  obtain ⟨v1, v2⟩ := l5.1 (by grind)
  generalize exF N k c = P at *
  have w1 : T * (-P * (999999 / 1000000)) ≤ T * o := Rat.mul_le_mul_of_nonneg_left (by grind) T0
  have w2 : T * -f' ≤ T * (-P * (1000001 / 1000000)) := Rat.mul_le_mul_of_nonneg_left (by grind) T0
  have w3 : T * -f' ≤ R * (50001 / 100000) := by
    have e3 : T * (-P * (999999 / 1000000)) = T * -P * (999999 / 1000000) := by grind
    have e4 : T * (-P * (1000001 / 1000000)) = T * -P * (1000001 / 1000000) := by grind
    rw [e3] at w1
    rw [e4] at w2
    have := h.r1
    generalize T * -P = Z at *
    generalize T * o = W at *
    grind
  have w4 : T * -f' * qa ≤ R * (50001 / 100000) * qa := Rat.mul_le_mul_of_nonneg_right w3 q0
  have w5 : R * (50001 / 100000) * qa ≤ R * (50001 / 100000) * A := Rat.mul_le_mul_of_nonneg_left qa1 (by have := h.r1; grind)
  have e5 : T * (-f' * qa) = T * -f' * qa := by rw [Rat.mul_assoc]
  have e6 : R * (A * (50001 / 100000)) = R * (50001 / 100000) * A := by grind
  rw [e5, e6]
  exact Rat.le_trans w4 w5
theorem side_fix {b : N} {t : F} {T R : Rat} (h : Crs b t T R) {k s c : Nat} (hk : IsCell b.g k) (hb : beside b.g.wide b.g.high k s = c) (hf : fixB b.g.fixed c = true) {f q : Rat} (hfl : RV (flow b.g k s) f) (hn : f < 0) (hq : RV (b.s c) q) (q0 : 0 ≤ q) :
    T * (-f * q) ≤ R * 3745 := by
  obtain ⟨N⟩ := h.nums
  have hz := sized_of h.ok
  have hcc := beside_cell hz hk.1 hb
  obtain ⟨f', k1, k2, _, _, _⟩ := flow_at N hz hk hb
  have e1 := k1.inj hfl
  subst e1
  obtain ⟨qa, hqa, _, qa1⟩ := h.sf c hcc hf
  have e2 := hqa.inj hq
  subst e2
  have a1 : -f' * qa ≤ 468 := by
    have u1 := Rat.mul_le_mul_of_nonneg_right (show -f' ≤ 48 by grind) q0
    grind
  have a2 := Rat.mul_le_mul_of_nonneg_left a1 h.safe.t0
  have a3 := h.safe.t8
  have a4 := h.r1
  grind
theorem mv_cap {b : N} {t : F} {T R A B X A' B' : Rat} (h : Crs b t T R) (hc : Cap b A B) (A0 : 0 ≤ A) (A1 : A ≤ 400000) (B1 : B ≤ 100000) (X1 : 3745 ≤ X) (X2 : A * (50001 / 100000) ≤ X) (X3 : X ≤ 400000)
    (hA' : A + (3 * X + A * (50001 / 100000) + 178) * (100002 / 100000) + A / 100000 ≤ A') (hB' : B + 15160 ≤ B') (_hA0 : 0 ≤ A') : Cap (mvT b t) A' B' := by
  have hfr : ∀ k, IsCell b.g k → fixB b.g.fixed k = false → ∃ K : Nat → Rat, (∀ s, 0 ≤ K s ∧ K s ≤ X) ∧ (HasF b.g k → ∃ s, s < 4 ∧ K s ≤ A * (50001 / 100000)) ∧ (¬ HasF b.g k → ∀ s, K s ≤ 3745) ∧
      ∀ s, s < 4 → ∀ c : Nat, beside b.g.wide b.g.high k s = c → ∀ f q, RV (flow b.g k s) f → f < 0 → RV (b.s c) q → 0 ≤ q → T * (-f * q) ≤ R * K s := by
    intro k hk hfk
    have key : ∀ s, ∃ K : Rat, (0 ≤ K ∧ K ≤ X) ∧ ((∃ c : Nat, s < 4 ∧ beside b.g.wide b.g.high k s = c ∧ fixB b.g.fixed c = false) → K ≤ A * (50001 / 100000)) ∧ ((¬ ∃ c : Nat, s < 4 ∧ beside b.g.wide b.g.high k s = c ∧ fixB b.g.fixed c = false) → K ≤ 3745) ∧
        (s < 4 → ∀ c : Nat, beside b.g.wide b.g.high k s = c → ∀ f q, RV (flow b.g k s) f → f < 0 → RV (b.s c) q → 0 ≤ q → T * (-f * q) ≤ R * K) := by
      intro s
      by_cases hx : ∃ c : Nat, s < 4 ∧ beside b.g.wide b.g.high k s = c ∧ fixB b.g.fixed c = false
      · obtain ⟨c, h1, h2, h3⟩ := hx
        refine ⟨A * (50001 / 100000), ⟨by grind, X2⟩, fun _ => Rat.le_refl, fun hn => absurd ⟨c, h1, h2, h3⟩ hn, fun _ c' hb f q hfl hn hq q0 => ?_⟩
        have : c' = c := by omega
        subst this
        exact side_free h hc h1 hk hfk hb h3 hfl hn hq q0
      · refine ⟨3745, ⟨by decide, X1⟩, fun hy => absurd hy hx, fun _ => Rat.le_refl, fun hs c hb f q hfl hn hq q0 => ?_⟩
        cases hfc : fixB b.g.fixed c
        · exact absurd ⟨c, hs, hb, hfc⟩ hx
        · exact side_fix h hk hb hfc hfl hn hq q0
    refine ⟨fun s => Classical.choose (key s), fun s => (Classical.choose_spec (key s)).1, fun ⟨s, c, h1, h2, h3⟩ => ⟨s, h1, (Classical.choose_spec (key s)).2.1 ⟨c, h1, h2, h3⟩⟩, fun hn s => (Classical.choose_spec (key s)).2.2.1 fun ⟨c, h1, h2, h3⟩ => hn ⟨s, c, h1, h2, h3⟩, fun s hs => (Classical.choose_spec (key s)).2.2.2 hs⟩
  have hmv : ∀ k, IsCell b.g k → fixB b.g.fixed k = false → (mvT b t).s k = mvS b t k := fun k hk hf => updL_in (free64.2 ⟨hk, hf⟩)
  constructor
  · intro k hk hf hh
    obtain ⟨K, K1, K2, _, K4⟩ := hfr k hk hf
    obtain ⟨s0, s1, s2⟩ := K2 hh
    obtain ⟨i, hi, i0, i1, i2⟩ := in_q h hk (fun s => (K1 s).1) K4
    obtain ⟨q, hq, q0, q1⟩ := hc.a k hk hf hh
    have k0 := K1 0
    have k1 := K1 1
    have k2 := K1 2
    have k3 := K1 3
    have hsum : K 0 + K 1 + K 2 + K 3 ≤ 3 * X + A * (50001 / 100000) := by
      have e : s0 = 0 ∨ s0 = 1 ∨ s0 = 2 ∨ s0 = 3 := by omega
      rcases e with rfl | rfl | rfl | rfl <;> grind
    have hYn : Yn K 4 ≤ (K 0 + K 1 + K 2 + K 3) * (100001 / 100000) + 1 / 1000 := by
      simp only [Yn]
      generalize K 0 = a at *
      generalize K 1 = b at *
      generalize K 2 = c at *
      generalize K 3 = d at *
      grind
    have hYp := Yn_nonneg (fun s => (K1 s).1) 4
    generalize Yn K 4 = Y at *
    generalize K 0 + K 1 + K 2 + K 3 = S at *
    obtain ⟨r, hr, r0, r1⟩ := mv_q h hk hf hi i0 i2 (by grind) (by grind) hq q0 (by grind)
    rw [hmv k hk hf]
    exact ⟨r, hr, r0, by grind⟩
  · intro k hk hf hh
    obtain ⟨K, K1, _, K3, K4⟩ := hfr k hk hf
    obtain ⟨i, hi, i0, i1, i2⟩ := in_q h hk (fun s => (K1 s).1) K4
    obtain ⟨q, hq, q0, q1⟩ := hc.b k hk hf hh
    have k0 := K1 0
    have k1 := K1 1
    have k2 := K1 2
    have k3 := K1 3
    have l0 := K3 hh 0
    have l1 := K3 hh 1
    have l2 := K3 hh 2
    have l3 := K3 hh 3
    have hYn : Yn K 4 ≤ (K 0 + K 1 + K 2 + K 3) * (100001 / 100000) + 1 / 1000 := by
      simp only [Yn]
      generalize K 0 = a at *
      generalize K 1 = b at *
      generalize K 2 = c at *
      generalize K 3 = d at *
      grind
    have hYp := Yn_nonneg (fun s => (K1 s).1) 4
    have hsum : K 0 + K 1 + K 2 + K 3 ≤ 14980 := by grind
    generalize Yn K 4 = Y at *
    generalize K 0 + K 1 + K 2 + K 3 = S at *
    obtain ⟨r, hr, r0, r1⟩ := mv_q h hk hf hi i0 i2 (by grind) (by grind) hq q0 (by grind)
    rw [hmv k hk hf]
    exact ⟨r, hr, r0, by grind⟩
/-- A brine behind a step: what is known of it. -/
theorem mv_crs {b : N} {t : F} {T R A B : Rat} (h : Crs b t T R) (hc : Cap (mvT b t) A B) (A1 : A ≤ 1000000) (B1 : B ≤ 1000000) : Crs (mvT b t) t T R := by
  refine ⟨h.ok, h.nums, h.tv, h.rv, h.r1, h.r2, ⟨h.safe.t0, h.safe.t1, h.safe.t8, h.safe.all⟩, fun k hk hh => ?_, fun k hk => ?_, fun k hk hf => ?_, h.p1, h.p0⟩
  · have hm : k ∉ freeL b.g 64 := fun hx => by have := (free64.1 hx).1.2; have hh : hasB b.g.wide b.g.high k = false := hh; rw [hh] at this; cases this
    show updL b.s (mvS b t) (freeL b.g 64) k = some 0
    rw [updL_out hm]
    exact h.s0 k hk hh
  · cases hf : fixB b.g.fixed k
    · by_cases hh : HasF b.g k
      · obtain ⟨q, q1, q2, q3⟩ := hc.a k hk hf hh
        exact ⟨q, q1, q2, by grind⟩
      · obtain ⟨q, q1, q2, q3⟩ := hc.b k hk hf hh
        exact ⟨q, q1, q2, by grind⟩
    · have hm : k ∉ freeL b.g 64 := fun hx => by have := (free64.1 hx).2; rw [hf] at this; cases this
      show ∃ q, RV (updL b.s (mvS b t) (freeL b.g 64) k) q ∧ _
      rw [updL_out hm]
      exact h.sp k hk
  · have hm : k ∉ freeL b.g 64 := fun hx => by have := (free64.1 hx).2; have hf : fixB b.g.fixed k = true := hf; rw [hf] at this; cases this
    show ∃ q, RV (updL b.s (mvS b t) (freeL b.g 64) k) q ∧ _
    rw [updL_out hm]
    exact h.sf k hk hf
theorem Crs.sane {b : N} {t : F} {T R : Rat} (h : Crs b t T R) : SaneB b :=
  ⟨h.ok, fun k hk => by obtain ⟨q, q1, q2, q3⟩ := h.sp k hk; exact ⟨q, q1, q2, by grind⟩, h.s0, h.p1, h.p0, ⟨R, h.rv, h.r1, h.r2⟩⟩
/-- The brine behind so many steps. -/
def mvIt (b : N) (t : F) : Nat → N
  | 0 => b
  | k + 1 => mvT (mvIt b t k) t
def capA : Nat → Rat
  | 0 => 10
  | 1 => 11430
  | 2 => 34480
  | 3 => 103650
  | 4 => 311200
  | _ => 934000
theorem it_cap {b : N} {t : F} {T R : Rat} (h : Crs b t T R) (hc : Cap b 10 10) : ∀ k, k ≤ 5 → Crs (mvIt b t k) t T R ∧ Cap (mvIt b t k) (capA k) (10 + 15160 * (k : Nat)) := by
  intro k
  induction k with
  | zero =>
    intro _
    refine ⟨h, ?_⟩
    have e : (10 : Rat) + 15160 * ((0 : Nat) : Rat) = 10 := by grind
    rw [e]; exact hc
  | succ k ih =>
    intro hk
    obtain ⟨i1, i2⟩ := ih (by omega)
    have hkR : ((k : Nat) : Rat) ≤ 4 := by
      have : ((k : Int) : Rat) ≤ ((4 : Int) : Rat) := Rat.intCast_le_intCast.2 (by omega)
      exact this
    have hkS : (((k + 1 : Nat) : Nat) : Rat) = (k : Rat) + 1 := by push_cast; rfl
    have hcap : Cap (mvIt b t (k + 1)) (capA (k + 1)) (10 + 15160 * ((k + 1 : Nat) : Rat)) := by
      have e : k = 0 ∨ k = 1 ∨ k = 2 ∨ k = 3 ∨ k = 4 := by omega
      refine mv_cap (X := if k = 0 then 3745 else capA k * (50001 / 100000)) i1 i2 ?_ ?_ (by grind) ?_ ?_ ?_ ?_ (by rw [hkS]; grind) ?_
      all_goals
        rcases e with rfl | rfl | rfl | rfl | rfl <;> simp only [capA, if_true, Nat.succ_ne_zero, if_false] <;> grind
    have hA : capA (k + 1) ≤ 1000000 := by
      have e : k = 0 ∨ k = 1 ∨ k = 2 ∨ k = 3 ∨ k = 4 := by omega
      rcases e with rfl | rfl | rfl | rfl | rfl <;> decide +kernel
    exact ⟨mv_crs i1 hcap hA (by rw [hkS]; grind), hcap⟩
theorem mvRun_it {b : N} {t : F} : ∀ k, (∀ j, j ≤ k → okB (mvIt b t j) = true) → mvRun b t k = some (mvIt b t k)
  | 0, _ => rfl
  | k + 1, h => mvRun_yes (mvRun_it k fun j hj => h j (by omega)) (h (k + 1) (by omega))
end Go.Proofs.Ytfcphfdfpjmgiaa

namespace Go.Proofs.Ytfcphfdfpjmgiaa
open Go.RowKit

theorem safe_of {n : N} {t : F} {T R : Rat} (h : Crs n t T R) : smallB n t = true := by
  obtain ⟨N⟩ := h.nums
  unfold smallB smallTo
  rw [amount_rv h.tv h.safe.t0 (by have := h.safe.t1; grind), Bool.true_and, List.all_eq_true]
  intro c hc
  obtain ⟨o, ho, o0, o1, _, _⟩ := out_q N (sized_of h.ok) (free64.1 hc).1
  obtain ⟨p, hp, p0, p1⟩ := part_q h.tv h.rv ho h.safe.t0 o0 h.r1 h.r2 (h.safe.all c hc o ho)
  rw [hp.le rv_one]
  exact decide_eq_true (by grind)
theorem brn_start {x : Br} (h : DrawnB x) : safeR x.n = (some 0, 6) ∨ ∃ t, safeR x.n = (t, 0) ∧ ∃ T R, Crs x.n t T R ∧ Cap x.n 10 10 := by
  obtain ⟨N⟩ := h.gr.nums
  have hs := sized_of h.gr.ok
  have hsn := h.sane
  obtain ⟨R, hR, R1, R2⟩ := hsn.rm
  unfold safeR
  rw [if_pos h.ok]
  have hsalt : ∀ k, IsCell x.n.g k → ∃ q, RV (x.n.s k) q ∧ 0 ≤ q ∧ q ≤ 39 / 4 := fun k hk => by
    show ∃ q, RV (fm x.s k) q ∧ _
    rw [fm_of hk.1]
    exact rv_salt (h.cell k hk.1 hk.2).1
  rcases safe_q N hs hR R1 R2 (freeL x.n.g 64) (fun c hc => (free64.1 hc).1) with ⟨h1, _⟩ | ⟨h1, T, hT, h2⟩
  · left; rw [if_neg (by rw [h1]; decide)]
  · right
    refine ⟨_, ?_, T, R, ⟨h.gr.ok, ⟨N⟩, hT, hR, R1, R2, h2, hsn.s0, fun k hk => ?_, fun k hk _ => hsalt k hk, hsn.p1, hsn.p0⟩, ⟨fun k hk _ _ => ?_, fun k hk _ _ => ?_⟩⟩
    · rw [if_pos h1, if_pos (plain_rv hT (by have := h2.t0; grind) (by have := h2.t1; grind))]
    · obtain ⟨q, q1, q2, q3⟩ := hsalt k hk; exact ⟨q, q1, q2, by grind⟩
    · obtain ⟨q, q1, q2, q3⟩ := hsalt k hk; exact ⟨q, q1, q2, by grind⟩
    · obtain ⟨q, q1, q2, q3⟩ := hsalt k hk; exact ⟨q, q1, q2, by grind⟩
theorem mvIt_same (b : N) (t : F) : ∀ k, (mvIt b t k).g = b.g ∧ (mvIt b t k).room = b.room
  | 0 => ⟨rfl, rfl⟩
  | k + 1 => mvIt_same b t k
theorem it_ok {n : N} {t : F} {T R : Rat} (h : Crs n t T R) (hc : Cap n 10 10) {k : Nat} (hk : k ≤ 5) : okB (mvIt n t k) = true := (it_cap h hc k hk).1.sane.okB
theorem step_it {n : N} {t : F} {T R : Rat} (h : Crs n t T R) (hc : Cap n 10 10) {k : Nat} (hk : k < 5) : stepR (mvIt n t k) t = (mvIt n t (k + 1), 0) := by
  unfold stepR mvR
  rw [if_pos (it_ok h hc (by omega)), if_pos (safe_of (it_cap h hc k (by omega)).1), if_pos (show okB (mvT (mvIt n t k) t) = true from it_ok (k := k + 1) h hc (by omega))]
  rfl
theorem times_it {n : N} {t : F} {T R : Rat} (h : Crs n t T R) (hc : Cap n 10 10) {k : Nat} (hk : k ≤ 5) : timesR n t (k : Int) = (mvIt n t k, 0) := by
  unfold timesR
  rw [if_pos (show okB n = true from it_ok (k := 0) h hc (by omega)), decide_eq_true (show (0 : Int) ≤ (k : Int) by omega), decide_eq_true (show (k : Int) ≤ 1000 by omega), safe_of h, if_pos (show (true && true && true) = true from rfl), Int.toNat_natCast, mvRun_it k fun j hj => it_ok h hc (by omega)]
theorem small_it {n : N} {t : F} {T R : Rat} (h : Crs n t T R) : isSmR n t = (true, 0) := by
  unfold isSmR
  rw [if_pos h.sane.okB, safe_of h]
theorem rng_n {x y : Br} (h : y.n.g = x.n.g) (hr : x.gr.Rng) (hx : x.gr.Fx) : y.gr.Rng ∧ y.gr.Fx := by
  have h : y.gr.m = x.gr.m := h
  have e1 : y.gr.wide = x.gr.wide := congrArg M.wide h
  have e2 : y.gr.high = x.gr.high := congrArg M.high h
  have e3 : y.gr.fixed = x.gr.fixed := congrArg M.fixed h
  unfold G.Rng G.Fx at *
  rw [e1, e2, e3]
  exact ⟨hr, hx⟩
/-- Salt behind a step is no less than nothing; fixed cells keep theirs. -/
theorem model_salt {x y : Br} {t : F} {T R : Rat} (h : Crs x.n t T R) (hc : Cap x.n 10 10) (hy : y.n = mvIt x.n t 1) {i : Nat} (hi : i < 64) :
    (fgt (fb (y.s i)) (fb 0) = true ∨ fgt (fb (y.s i)) (fb 0) = false ∧ feq (fb (y.s i)) (fb 0) = true) ∧ (fixB x.gr.fixed i = true → fb (y.s i) = fb (x.s i)) := by
  have e : fb (y.s i) = (mvIt x.n t 1).s i := by rw [← hy]; exact (fm_of hi).symm
  constructor
  · rw [e, fb0]
    have hq : ∃ q, RV ((mvIt x.n t 1).s i) q ∧ 0 ≤ q := by
      cases hh : hasB x.gr.wide x.gr.high i
      · rw [(it_cap h hc 1 (by omega)).1.s0 i hi hh]; exact ⟨0, rv_zero, Rat.le_refl⟩
      · obtain ⟨q, q1, q2, _⟩ := (it_cap h hc 1 (by omega)).1.sp i ⟨hi, hh⟩
        exact ⟨q, q1, q2⟩
    obtain ⟨q, hq, q0⟩ := hq
    rw [hq.gt rv_zero, hq.eq rv_zero]
    by_cases h0 : 0 < q
    · exact .inl (decide_eq_true h0)
    · exact .inr ⟨decide_eq_false h0, decide_eq_true (by grind)⟩
  · intro hf
    have hm : i ∉ freeL x.n.g 64 := fun hx => by
      have h1 := (free64.1 hx).2
      have hf : fixB x.n.g.fixed i = true := hf
      rw [hf] at h1; cases h1
    rw [e]
    show updL x.n.s (mvS x.n t) (freeL x.n.g 64) i = _
    rw [updL_out hm]
    exact fm_of hi
theorem DrB.sfits {x : Br} (h : DrawnB x) (c : Nat) : Fits (fm x.s c) := by
  by_cases hc : c < 64
  · rw [fm_of hc]
    have hv : x.s c < 2147483648 := by
      cases hh : hasB x.gr.wide x.gr.high c
      · rw [(h.out c (.inr hh)).1]; omega
      · rcases (h.cell c hc hh).1 with ⟨z, z1, e⟩ | e
        · rw [e]; exact qb_small ⟨z, by omega⟩
        · omega
    intro b hb
    have := fb_bits hb
    omega
  · unfold fm; rw [if_neg hc]
    intro b e; cases e
theorem div_powB (x k : Nat) : ∃ y : Nat, x / 2 ^ k = y ∧ (x : Int) / 2 ^ k = (y : Int) ∧ y ≤ x :=
  ⟨x / 2 ^ k, rfl, by rw [Int.natCast_ediv]; simp, Nat.div_le_self _ _⟩
theorem bit_modB (x k : Nat) : (((x : Int) / 2 ^ k).tmod 2 == 1) = x.testBit k := by
  obtain ⟨y, h1, h2, _⟩ := div_powB x k
  rw [h2, Nat.testBit_eq_decide_div_mod_eq, h1, Bool.beq_eq_decide_eq, Int.tmod_eq_emod_of_nonneg (by omega)]
  exact decide_eq_decide.2 (by omega)
/-- The saltiest cell is in its own front. -/
theorem most_front {x : Br} (h : DrawnB x) : ∃ b : Nat, b < 64 ∧ mostR x.n = ((b : Int), fb (x.s b), 0) ∧ (((bitsL (frontL x.n (fb (x.s b)))) / 2 ^ b).tmod 2 == 1) = true := by
  have hs := sized_of h.gr.ok
  obtain ⟨b, hb⟩ := bestOf_some (d := x.n.s) (cells_ne (m := x.n.g) hs.1.1 hs.2.1)
  have hc := mem_cellsS.1 (bestOf_mem hb)
  have e : x.n.s b = fb (x.s b) := fm_of hc.1
  have hm : b ∈ frontL x.n (fb (x.s b)) := by
    unfold frontL
    rw [List.mem_filter]
    refine ⟨bestOf_mem hb, ?_⟩
    obtain ⟨q, hq, _, _⟩ := h.sane.s1 b hc
    show fge (x.n.s b) (fb (x.s b)) = true
    rw [← e, hq.ge hq]
    exact decide_eq_true Rat.le_refl
  refine ⟨b, hc.1, ?_, ?_⟩
  · unfold mostR
    rw [if_pos h.ok, hb, ← e]
  · have h64 : ∀ c ∈ frontL x.n (fb (x.s b)), c < 64 := fun c hc => cells64 (List.mem_filter.1 hc).1
    rw [bitsL_been h64, bit_modB, beenN_bit]
    exact decide_eq_true hm
end Go.Proofs.Ytfcphfdfpjmgiaa
