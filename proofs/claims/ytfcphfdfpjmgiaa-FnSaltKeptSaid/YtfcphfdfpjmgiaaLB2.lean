/- Brines that are drawn; mixtures; what is reversed. -/
import Derived.Test.YtfcphfdfpjmgiaaSetF
import Derived.Test.YtfcphfdfpjmgiaaBrOk
import Derived.Test.YtfcphfdfpjmgiaaLB1
import Derived.Test.YtfcphfdfpjmgiaaLM2
import Derived.Test.YtfcphfdfpjmgiaaLB1
import Derived.BigRegion
namespace Go.Proofs.Ytfcphfdfpjmgiaa
open Go.RowKit

theorem rv_big : RV (some 1233125376) 1048576 := RV.of (v := 1048576 * (2 ^ 149 : Nat)) (by decide +kernel) (by decide +kernel)
theorem rv_low : RV (some 3380609024) (-1048576) := RV.of (v := -1048576 * (2 ^ 149 : Nat)) (by decide +kernel) (by decide +kernel)
theorem rv_room : RV lroom (1 / 1024) := RV.of (v := (2 ^ 139 : Nat)) (by decide +kernel) (by decide +kernel)
theorem plain_rv {x : F} {q : Rat} (h : RV x q) (h1 : -1048576 ≤ q) (h2 : q ≤ 1048576) : plain x = true := by
  unfold plain
  rw [h.ge rv_low, h.le rv_big, decide_eq_true h1, decide_eq_true h2]; rfl
theorem amount_rv {x : F} {q : Rat} (h : RV x q) (h1 : 0 ≤ q) (h2 : q ≤ 1048576) : amount x = true := by
  unfold amount
  rw [plain_rv h (by grind) h2, h.ge rv_zero, decide_eq_true h1]; rfl
/-- A very small number. -/
theorem rv_tiny {b : Nat} (h : b < 8388608) : RV (fb b) ((b : Int) / uQ) := by
  obtain ⟨m, e, h1, h2, h3, h4⟩ := read_rung b (by omega)
  have he : e = -149 := by omega
  have hm : m = b := by subst he; simp at h2; omega
  subst he hm
  have hs : (m / 2147483648 % 2 == 1) = false := by
    have : m / 2147483648 = 0 := Nat.div_eq_of_lt (by omega)
    rw [this]; rfl
  rw [hs] at h1
  have hf : fb m = some m := by
    show fbOf Ieee.single m = some m
    rcases fbOf_cases Ieee.single m with ⟨_, e⟩ | ⟨e, _⟩
    · rw [h1] at e; cases e
    · exact e
  rw [hf]
  refine ⟨m, ⟨m, false, m, -149, rfl, h1, by omega, ?_⟩, Rat.div_mul_cancel (by have := uQ_pos; grind)⟩
  rw [signed_eq]; simp

/-- What is drawn as salt, and as a spring's. -/
def SaltD (b : Nat) : Prop := (∃ z : Nat, z ≤ 39 ∧ b = qB z) ∨ b < 4000
def SprD (b : Nat) : Prop := ∃ z : Nat, z ≤ 11 ∧ b = qB z
def RoomD (b : Nat) : Prop := b = 1065353216 ∨ b = 1092616192 ∨ b = 1112014848 ∨ b = 1128792064
structure DrB (x : Br) (k : Nat) : Prop where
  gr : Drawn x.gr
  room : RoomD x.room
  cell : ∀ j, j < k → hasB x.gr.wide x.gr.high j = true → SaltD (x.s j) ∧ SprD (x.p j)
  out : ∀ j, (k ≤ j ∨ hasB x.gr.wide x.gr.high j = false) → x.s j = 0 ∧ x.p j = 0
abbrev DrawnB (x : Br) : Prop := DrB x 64
theorem DrB.skip {x : Br} {k : Nat} (h : DrB x k) (hh : hasB x.gr.wide x.gr.high k = false) : DrB x (k + 1) :=
  ⟨h.gr, h.room, fun j hj hb => h.cell j (by rcases Nat.lt_or_eq_of_le (Nat.le_of_lt_succ hj) with h1 | h1; exact h1; subst h1; rw [hh] at hb; cases hb) hb,
   fun j hj => h.out j (by rcases hj with h1 | h1; exact .inl (by omega); exact .inr h1)⟩
/-- The draw of one cell: its salt, its spring's. -/
theorem DrB.put {x : Br} {k : Nat} (h : DrB x k) (hh : hasB x.gr.wide x.gr.high k = true) {s p : Nat → Nat} (hs : ∀ j, j ≠ k → s j = x.s j) (hp : ∀ j, j ≠ k → p j = x.p j) (h1 : SaltD (s k)) (h2 : SprD (p k)) :
    DrB { x with s := s, p := p } (k + 1) := by
  refine ⟨h.gr, h.room, fun j hj hb => ?_, fun j hj => ?_⟩
  · by_cases e : j = k
    · subst e; exact ⟨h1, h2⟩
    · have := h.cell j (by omega) hb
      show SaltD (s j) ∧ SprD (p j)
      rw [hs j e, hp j e]; exact this
  · have e : j ≠ k := by
      rintro rfl
      rcases hj with h1 | h1
      · omega
      · have h1 : hasB x.gr.wide x.gr.high j = false := h1
        rw [hh] at h1; cases h1
    have := h.out j (by rcases hj with h1 | h1; exact .inl (by omega); exact .inr h1)
    show s j = 0 ∧ p j = 0
    rw [hs j e, hp j e]; exact this
theorem rv_salt {b : Nat} (h : SaltD b) : ∃ q, RV (fb b) q ∧ 0 ≤ q ∧ q ≤ 39 / 4 := by
  rcases h with ⟨z, h1, rfl⟩ | h
  · refine ⟨_, rv_q (z := z) (by omega) (by omega), ?_, ?_⟩
    · have e : quart 0 = 0 := by decide +kernel
      have := quart_le (show (0 : Int) ≤ z by omega)
      rw [e] at this; exact this
    · have e : quart 39 = 39 / 4 := by decide +kernel
      have := quart_le (show (z : Int) ≤ 39 by omega)
      rw [e] at this; exact this
  · refine ⟨_, rv_tiny (by omega), ?_, ?_⟩
    · exact (q_le (p := 0) (v := 0) (w := (b : Int)) (by rw [Rat.zero_mul]; rfl) (Rat.div_mul_cancel (by have := uQ_pos; grind))).2 (by omega)
    · have h0 : ((b : Int) : Rat) ≤ ((4000 : Int) : Rat) := Rat.intCast_le_intCast.2 (by omega)
      have hu : ((4000 : Int) : Rat) / uQ ≤ 39 / 4 := by decide +kernel
      have hp := uQ_pos
      have : ((b : Int) : Rat) / uQ ≤ ((4000 : Int) : Rat) / uQ := by
        refine Rat.le_of_mul_le_mul_right (c := uQ) ?_ hp
        rw [Rat.div_mul_cancel (by grind), Rat.div_mul_cancel (by grind)]
        exact h0
      exact Rat.le_trans this hu
theorem rv_spr {b : Nat} (h : SprD b) : ∃ q, RV (fb b) q ∧ 0 ≤ q ∧ q ≤ 11 / 4 := by
  obtain ⟨z, h1, rfl⟩ := h
  refine ⟨_, rv_q (z := z) (by omega) (by omega), ?_, ?_⟩
  · have e : quart 0 = 0 := by decide +kernel
    have := quart_le (show (0 : Int) ≤ z by omega)
    rw [e] at this; exact this
  · have e : quart 11 = 11 / 4 := by decide +kernel
    have := quart_le (show (z : Int) ≤ 11 by omega)
    rw [e] at this; exact this
theorem rv_roomD {b : Nat} (h : RoomD b) : ∃ q, RV (fb b) q ∧ 1 ≤ q ∧ q ≤ 200 := by
  rcases h with rfl | rfl | rfl | rfl
  · exact ⟨1, RV.of (v := 1 * (2 ^ 149 : Nat)) (by decide +kernel) (by decide +kernel), by decide +kernel, by decide +kernel⟩
  · exact ⟨10, RV.of (v := 10 * (2 ^ 149 : Nat)) (by decide +kernel) (by decide +kernel), by decide +kernel, by decide +kernel⟩
  · exact ⟨50, RV.of (v := 50 * (2 ^ 149 : Nat)) (by decide +kernel) (by decide +kernel), by decide +kernel, by decide +kernel⟩
  · exact ⟨200, RV.of (v := 200 * (2 ^ 149 : Nat)) (by decide +kernel) (by decide +kernel), by decide +kernel, by decide +kernel⟩
theorem saltD_zero : SaltD 0 := .inr (by omega)
theorem sprD_zero : SprD 0 := ⟨0, by omega, by decide +kernel⟩
theorem DrB.start {g : G} {r : Nat} (hg : Drawn g) (hr : RoomD r) : DrB ⟨g, fun _ => 0, fun _ => 0, r⟩ 0 :=
  ⟨hg, hr, fun j hj => absurd hj (by omega), fun _ _ => ⟨rfl, rfl⟩⟩

/-- A brine whose ground is drawn and whose salt is right: valid. -/
structure SaneB (n : N) : Prop where
  ok : okI n.g = true
  s1 : ∀ k, IsCell n.g k → ∃ q, RV (n.s k) q ∧ 0 ≤ q ∧ q ≤ 1048576
  s0 : ∀ k, k < 64 → hasB n.g.wide n.g.high k = false → n.s k = some 0
  p1 : ∀ k, IsCell n.g k → ∃ q, RV (n.p k) q ∧ 0 ≤ q ∧ q ≤ 11 / 4
  p0 : ∀ k, k < 64 → hasB n.g.wide n.g.high k = false → n.p k = some 0
  rm : ∃ q, RV n.room q ∧ 1 ≤ q ∧ q ≤ 200
theorem field_ok {W H : Int} {f : Nat → F} (h1 : ∀ k, k < 64 → hasB W H k = true → amount (f k) = true) (h0 : ∀ k, k < 64 → hasB W H k = false → f k = some 0) : fieldTo W H amount f 64 = true := by
  have f0 : feq (some 0) (some 0) = true := by decide
  unfold fieldTo
  rw [List.all_eq_true]
  intro j hj
  have hj := List.mem_range.1 hj
  cases hh : hasB W H j
  · rw [h0 j hj hh]; exact f0
  · exact h1 j hj hh
theorem SaneB.okB {n : N} (h : SaneB n) : okB n = true := by
  unfold Proofs.Ytfcphfdfpjmgiaa.okB
  rw [h.ok, field_ok (fun k hk hh => by obtain ⟨q, h1, h2, h3⟩ := h.s1 k ⟨hk, hh⟩; exact amount_rv h1 h2 h3) h.s0, field_ok (fun k hk hh => by obtain ⟨q, h1, h2, h3⟩ := h.p1 k ⟨hk, hh⟩; exact amount_rv h1 h2 (by grind)) h.p0]
  obtain ⟨q, h1, h2, h3⟩ := h.rm
  rw [plain_rv h1 (by grind) (by grind), h1.ge rv_room, decide_eq_true (by grind)]; rfl
theorem DrB.sane {x : Br} (h : DrawnB x) : SaneB x.n := by
  refine ⟨h.gr.ok, fun k hk => ?_, fun k hk hh => ?_, fun k hk => ?_, fun k hk hh => ?_, rv_roomD h.room⟩
  · show ∃ q, RV (fm x.s k) q ∧ _
    rw [fm_of hk.1]
    obtain ⟨q, h1, h2, h3⟩ := rv_salt (h.cell k hk.1 hk.2).1
    exact ⟨q, h1, h2, by grind⟩
  · show fm x.s k = _
    rw [fm_of hk, (h.out k (.inr hh)).1]; exact fb0
  · show ∃ q, RV (fm x.p k) q ∧ _
    rw [fm_of hk.1]
    exact rv_spr (h.cell k hk.1 hk.2).2
  · show fm x.p k = _
    rw [fm_of hk, (h.out k (.inr hh)).2]; exact fb0
theorem DrB.ok {x : Br} (h : DrawnB x) : Proofs.Ytfcphfdfpjmgiaa.okB x.n = true := h.sane.okB
end Go.Proofs.Ytfcphfdfpjmgiaa

namespace Go.Proofs.Ytfcphfdfpjmgiaa
open Go.RowKit

/-- A number from 0 to 24 and three quarters; how much is kept. -/
structure KeptD (a q : Nat) : Prop where
  a : ∃ p, RV (fb a) p ∧ 0 ≤ p ∧ p ≤ 99 / 4
  q : ∃ z : Nat, z ≤ 4 ∧ q = qB z
theorem k100_all : ∀ n : Fin 100, valF (qF n.val) = some ((n.val : Int) * (2 ^ 147 : Nat)) ∧ (qF n.val).isSome = true := by decide +kernel
theorem rv_k100 {r z : Nat} (h : Is r (qF z)) (hz : z < 100) : RV (fb r) (quart z) ∧ 0 ≤ quart z ∧ quart z ≤ 99 / 4 := by
  have e := (k100_all ⟨z, hz⟩).1
  rw [h.out]
  refine ⟨RV.of e ?_, ?_, ?_⟩
  · have e2 : (((2 ^ 147 : Nat) : Int) : Rat) * 4 = uQ := by decide +kernel
    rw [Rat.intCast_mul]
    unfold quart
    rw [← e2]
    generalize (((2 ^ 147 : Nat) : Int) : Rat) = X
    grind
  · have e : quart 0 = 0 := by decide +kernel
    have := quart_le (show (0 : Int) ≤ z by omega)
    rw [e] at this; exact this
  · have e : quart 99 = 99 / 4 := by decide +kernel
    have := quart_le (show (z : Int) ≤ 99 by omega)
    rw [e] at this; exact this
theorem keep_q {z : Nat} (hz : z ≤ 4) : RV (fb (qB z)) (quart z) ∧ 0 ≤ quart z ∧ quart z ≤ 1 := by
  refine ⟨rv_q (by omega) (by omega), ?_, ?_⟩
  · have e : quart 0 = 0 := by decide +kernel
    have := quart_le (show (0 : Int) ≤ z by omega)
    rw [e] at this; exact this
  · have e : quart 4 = 1 := by decide +kernel
    have := quart_le (show (z : Int) ≤ 4 by omega)
    rw [e] at this; exact this
theorem dec_step {x y : F} {p t : Rat} (hx : RV x p) (hy : RV y t) (h0 : 0 ≤ p) (hp : p ≤ 1048576) (t0 : 0 ≤ t) (t1 : t ≤ 1) : ∃ r, RV (fmul x y) r ∧ 0 ≤ r ∧ r ≤ p := by
  have h1 : p * t ≤ p := by have := Rat.mul_le_mul_of_nonneg_left t1 h0; rwa [Rat.mul_one] at this
  have h2 : 0 ≤ p * t := Rat.mul_nonneg h0 t0
  obtain ⟨r, hr, _, h3, h4⟩ := hx.mul hy (by grind) (by grind)
  exact ⟨r, hr, h4 _ _ rv_zero h2, h3 _ _ hx h1⟩
theorem dec_all {x y : F} {p t : Rat} (hx : RV x p) (hy : RV y t) (h0 : 0 ≤ p) (hp : p ≤ 1048576) (t0 : 0 ≤ t) (t1 : t ≤ 1) : ∀ k, ∃ r, RV (decF x y k) r ∧ 0 ≤ r ∧ r ≤ p
  | 0 => ⟨p, hx, h0, Rat.le_refl⟩
  | k + 1 => by
    obtain ⟨r, h1, h2, h3⟩ := dec_all hx hy h0 hp t0 t1 k
    obtain ⟨s, k1, k2, k3⟩ := dec_step h1 hy h2 (by grind) t0 t1
    exact ⟨s, k1, k2, by grind⟩
theorem dec_next {x y : F} {p t : Rat} (hx : RV x p) (hy : RV y t) (h0 : 0 ≤ p) (hp : p ≤ 1048576) (t0 : 0 ≤ t) (t1 : t ≤ 1) (k : Nat) : fgt (decF x y (k + 1)) (decF x y k) = false ∧ fgt (decF x y k) x = false ∧ flt (decF x y k) (some 0) = false := by
  obtain ⟨r, h1, h2, h3⟩ := dec_all hx hy h0 hp t0 t1 k
  obtain ⟨s, k1, k2, k3⟩ := dec_step h1 hy h2 (by grind) t0 t1
  refine ⟨?_, ?_, ?_⟩
  · show fgt (fmul (decF x y k) y) _ = false
    rw [k1.gt h1]; exact decide_eq_false (by grind)
  · rw [h1.gt hx]; exact decide_eq_false (by grind)
  · rw [h1.lt rv_zero]; exact decide_eq_false (by grind)

/-! When a number is gone. -/
def pwB (j : Nat) : Nat := if j < 23 then 2 ^ j else (j - 22) * 8388608
theorem pw_all : ∀ j : Fin 160, valF (some (pwB j.val)) = some ((2 ^ j.val : Nat) : Int) := by decide +kernel
theorem log_two {z : Int} {a b : Nat} (h0 : 0 ≤ z) (h : z ≤ ((2 ^ a : Nat) : Int) * ((2 ^ b : Nat) : Int)) (hab : a + b ≤ 424) : z.natAbs.log2 ≤ 424 := by
  have h2 : z.natAbs ≤ 2 ^ a * 2 ^ b := by
    have : (z.natAbs : Int) ≤ ((2 ^ a * 2 ^ b : Nat) : Int) := by rw [Int.natAbs_of_nonneg h0, Int.natCast_mul]; exact h
    exact Int.ofNat_le.1 this
  rw [← Nat.pow_add] at h2
  have := log_le_of_lt (k := a + b) (Nat.lt_of_le_of_lt h2 (Nat.pow_lt_pow_right (by decide) (by omega)))
  omega
theorem half_mul {x y : F} {v w : Int} {j : Nat} (hj : j < 159) (hx : Val x v) (hy : Val y w) (h0 : 0 ≤ v) (hv : v ≤ (2 ^ (j + 1) : Nat)) (w0 : 0 ≤ w) (hw : w ≤ (2 ^ 148 : Nat)) : ∃ r, Val (fmul x y) r ∧ 0 ≤ r ∧ r ≤ (2 ^ j : Nat) := by
  have hp : Val (some (pwB j)) ((2 ^ j : Nat) : Int) := valF_of (pw_all ⟨j, by omega⟩)
  have hvw : v * w ≤ ((2 ^ j : Nat) : Int) * ((2 ^ 149 : Nat) : Int) := by
    have h1 : v * w ≤ ((2 ^ (j + 1) : Nat) : Int) * ((2 ^ 148 : Nat) : Int) := Int.mul_le_mul hv hw w0 (by omega)
    have e : (2 ^ (j + 1) : Nat) * 2 ^ 148 = 2 ^ j * 2 ^ 149 := by rw [Nat.pow_succ]; generalize 2 ^ j = P; omega
    have e2 : ((2 ^ (j + 1) : Nat) : Int) * ((2 ^ 148 : Nat) : Int) = ((2 ^ j : Nat) : Int) * ((2 ^ 149 : Nat) : Int) := by exact_mod_cast e
    rw [e2] at h1; exact h1
  have hvw0 : 0 ≤ v * w := Int.mul_nonneg h0 w0
  have hl : (v * w).natAbs.log2 ≤ 424 := log_two hvw0 hvw (by omega)
  have hr := mul_val hx hy hl
  have k := rz_mono 149 hvw
  rw [rz_exact hp 149] at k
  have k0 := rz_mono 149 (y := 0) (z := v * w) hvw0
  rw [show rz 149 0 = 0 by decide +kernel] at k0
  exact ⟨_, hr, k0, k⟩
theorem last_mul {x y : F} {v w : Int} (hx : Val x v) (hy : Val y w) (h0 : 0 ≤ v) (hv : v ≤ 1) (w0 : 0 ≤ w) (hw : w ≤ (2 ^ 148 : Nat)) : Val (fmul x y) 0 := by
  have hb : v * w ≤ (2 ^ 148 : Nat) := by
    have : v = 0 ∨ v = 1 := by omega
    rcases this with rfl | rfl
    · rw [Int.zero_mul]; omega
    · rw [Int.one_mul]; exact hw
  have hvw0 : 0 ≤ v * w := Int.mul_nonneg h0 w0
  have hl : (v * w).natAbs.log2 ≤ 424 := log_two (a := 148) (b := 0) hvw0 (by simpa using hb) (by omega)
  have hr := mul_val hx hy hl
  have k := rz_mono 149 hb
  rw [show rz 149 ((2 ^ 148 : Nat) : Int) = 0 by decide +kernel] at k
  have k0 := rz_mono 149 (y := 0) (z := v * w) hvw0
  rw [show rz 149 0 = 0 by decide +kernel] at k0
  have : rz 149 (v * w) = 0 := by omega
  rw [this] at hr; exact hr
theorem dec_half {x y : F} {v w : Int} (hx : Val x v) (hy : Val y w) (h0 : 0 ≤ v) (hv : v ≤ (2 ^ 154 : Nat)) (w0 : 0 ≤ w) (hw : w ≤ (2 ^ 148 : Nat)) : ∀ k, k ≤ 154 → ∃ r, Val (decF x y k) r ∧ 0 ≤ r ∧ r ≤ (2 ^ (154 - k) : Nat)
  | 0, _ => ⟨v, hx, h0, hv⟩
  | k + 1, hk => by
    obtain ⟨r, h1, h2, h3⟩ := dec_half hx hy h0 hv w0 hw k (by omega)
    refine half_mul (j := 154 - (k + 1)) (by omega) h1 hy h2 ?_ w0 hw
    rw [show 154 - (k + 1) + 1 = 154 - k by omega]; exact h3
/-- What is kept by half or less is gone in time. -/
theorem dec_gone {x y : F} {v w : Int} (hx : Val x v) (hy : Val y w) (h0 : 0 ≤ v) (hv : v ≤ (2 ^ 154 : Nat)) (w0 : 0 ≤ w) (hw : w ≤ (2 ^ 148 : Nat)) : feq (decF x y 155) (some 0) = true := by
  obtain ⟨r, h1, h2, h3⟩ := dec_half hx hy h0 hv w0 hw 154 (by omega)
  have : Val (decF x y 155) 0 := last_mul h1 hy h2 h3 w0 hw
  rw [feq_val this val_zero]; rfl
/-- What is kept by more than half stays. -/
theorem dec_stay {x y : F} {v w : Int} (hx : Val x v) (hy : Val y w) (h0 : 1 ≤ v) (hv : v ≤ (2 ^ 154 : Nat)) (w0 : 3 * (2 ^ 147 : Nat) ≤ w) (hw : w ≤ (2 ^ 149 : Nat)) : ∀ k, ∃ r, Val (decF x y k) r ∧ 1 ≤ r ∧ r ≤ (2 ^ 154 : Nat)
  | 0 => ⟨v, hx, h0, hv⟩
  | k + 1 => by
    obtain ⟨r, h1, h2, h3⟩ := dec_stay hx hy h0 hv w0 hw k
    have hb : 3 * (2 ^ 147 : Nat) ≤ r * w := by
      have := Int.mul_le_mul h2 w0 (by decide) (by omega)
      rw [Int.one_mul] at this; exact this
    have hw00 : 0 ≤ w := by
      have : (0 : Int) ≤ 3 * (2 ^ 147 : Nat) := by decide
      omega
    have ht : r * w ≤ ((2 ^ 154 : Nat) : Int) * ((2 ^ 149 : Nat) : Int) := Int.mul_le_mul h3 hw hw00 (by decide)
    have hrw0 : 0 ≤ r * w := Int.mul_nonneg (by omega) hw00
    have hl : (r * w).natAbs.log2 ≤ 424 := log_two hrw0 ht (by omega)
    have hr := mul_val h1 hy hl
    have hp : Val (some (pwB 154)) ((2 ^ 154 : Nat) : Int) := valF_of (pw_all ⟨154, by omega⟩)
    have k1 := rz_mono 149 hb
    rw [show rz 149 (3 * ((2 ^ 147 : Nat) : Int)) = 1 by decide +kernel] at k1
    have k2 := rz_mono 149 ht
    rw [rz_exact hp 149] at k2
    exact ⟨_, hr, k1, k2⟩
/-- The least time at which something holds. -/
theorem least {P : Nat → Bool} : ∀ n, P n = true → ∃ m, m ≤ n ∧ P m = true ∧ ∀ j, j < m → P j = false
  | 0, h => ⟨0, Nat.le_refl _, h, fun _ hj => absurd hj (by omega)⟩
  | n + 1, h => by
    by_cases h2 : ∃ m, m ≤ n ∧ P m = true ∧ ∀ j, j < m → P j = false
    · obtain ⟨m, h3, h4⟩ := h2
      exact ⟨m, by omega, h4⟩
    · refine ⟨n + 1, Nat.le_refl _, h, fun j hj => ?_⟩
      cases e : P j
      · rfl
      · obtain ⟨m, h3, h4, h5⟩ := least j e
        exact absurd ⟨m, by omega, h4, h5⟩ h2
/-- What the law asks of the time at which a number is gone. -/
theorem gone_law {a q : Nat} (h : KeptD a q) :
    ∃ gn : Nat, ∃ gc : Int, goneR (fb a) (fb q) 400 = ((gn : Int), gc) ∧ ((fle (fb q) (some 1056964608) = true ∧ fgt (fb q) (some 1056964608) = false ∧ gc = 0 ∨ fle (fb q) (some 1056964608) = false ∧ fgt (fb q) (some 1056964608) = true ∧ (fgt (fb a) (some 0) = false ∧ gc = 0 ∨ fgt (fb a) (some 0) = true ∧ gc = 7)) ∧
      (gc = 0 → gn ≤ 400 ∧ feq (decF (fb a) (fb q) gn) (some 0) = true ∧ ∀ j, j < gn → feq (decF (fb a) (fb q) j) (some 0) = false)) := by
  obtain ⟨⟨p, hp, p0, p1⟩, z, hz, rfl⟩ := h
  obtain ⟨hq, q0, q1⟩ := keep_q hz
  have hhalf : RV (some 1056964608) (1 / 2) := RV.of (v := (2 ^ 148 : Nat)) (by decide +kernel) (by decide +kernel)
  obtain ⟨v, hv, ev⟩ := hp
  obtain ⟨w, hw, ew⟩ := hq
  have v0 : 0 ≤ v := (q_le (p := 0) (by rw [Rat.zero_mul]; rfl) ev).1 p0
  have v1 : v ≤ (2 ^ 154 : Nat) := (q_le (q := 32) ev (by decide +kernel)).1 (by grind)
  have w0 : 0 ≤ w := (q_le (p := 0) (by rw [Rat.zero_mul]; rfl) ew).1 q0
  have w1 : w ≤ (2 ^ 149 : Nat) := (q_le (q := 1) ew (by decide +kernel)).1 (by grind)
  have hp : RV (fb a) p := ⟨v, hv, ev⟩
  have hq : RV (fb (qB z)) (quart z) := ⟨w, hw, ew⟩
  by_cases hz2 : z ≤ 2
  · have q2 : quart z ≤ 1 / 2 := by
      have e : quart 2 = 1 / 2 := by decide +kernel
      have := quart_le (show (z : Int) ≤ 2 by omega)
      rw [e] at this; exact this
    have w2 : w ≤ (2 ^ 148 : Nat) := (q_le (q := 1 / 2) ew (by decide +kernel)).1 q2
    obtain ⟨m, m1, m2, m3⟩ := least (P := fun n => feq (decF (fb a) (fb (qB z)) n) (some 0)) 155 (dec_gone hv hw v0 v1 w0 w2)
    refine ⟨m, 0, gone_some (by omega) m2 m3, .inl ⟨?_, ?_, rfl⟩, fun _ => ⟨by omega, m2, m3⟩⟩
    · rw [hq.le hhalf]; exact decide_eq_true q2
    · rw [hq.gt hhalf]; exact decide_eq_false (by grind)
  · have q2 : 3 / 4 ≤ quart z := by
      have e : quart 3 = 3 / 4 := by decide +kernel
      have := quart_le (show (3 : Int) ≤ z by omega)
      rw [e] at this; exact this
    have w2 : 3 * (2 ^ 147 : Nat) ≤ w := (q_le (p := 3 / 4) (by decide +kernel) ew).1 q2
    have k1 : fle (fb (qB z)) (some 1056964608) = false := by rw [hq.le hhalf]; exact decide_eq_false (by grind)
    have k2 : fgt (fb (qB z)) (some 1056964608) = true := by rw [hq.gt hhalf]; exact decide_eq_true (by grind)
    by_cases hz0 : v = 0
    · subst hz0
      have hz : feq (fb a) (some 0) = true := by rw [feq_val hv val_zero]; rfl
      refine ⟨0, 0, gone_some (by omega) hz (fun j hj => absurd hj (by omega)), .inr ⟨k1, k2, .inl ⟨?_, rfl⟩⟩, fun _ => ⟨by omega, hz, fun j hj => absurd hj (by omega)⟩⟩
      rw [fgt_val hv val_zero]; rfl
    · have hall : ∀ j, feq (decF (fb a) (fb (qB z)) j) (some 0) = false := fun j => by
        obtain ⟨r, r1, r2, _⟩ := dec_stay hv hw (by omega) v1 w2 w1 j
        rw [feq_val r1 val_zero]; exact decide_eq_false (by omega)
      refine ⟨0, 7, gone_none fun j _ => hall j, .inr ⟨k1, k2, .inr ⟨?_, rfl⟩⟩, fun h => by cases h⟩
      rw [fgt_val hv val_zero]; exact decide_eq_true (by omega)
theorem keep_ok {a q : Nat} {z : Int} (h : KeptD a q) (h0 : 0 ≤ z) (h1 : z ≤ 1000) : keepB (fb a) (fb q) z = true := by
  obtain ⟨⟨p, hp, p0, p1⟩, y, hy, rfl⟩ := h
  obtain ⟨hq, q0, q1⟩ := keep_q hy
  have hone : RV (fb 1065353216) 1 := by
    rw [show fb 1065353216 = some 1065353216 by decide +kernel]
    exact RV.of (v := (2 ^ 149 : Nat)) (by decide +kernel) (by decide +kernel)
  unfold keepB timB
  rw [amount_rv hp p0 (by grind), fb0, hq.ge rv_zero, hq.le hone, decide_eq_true q0, decide_eq_true q1, decide_eq_true h0, decide_eq_true h1]; rfl
end Go.Proofs.Ytfcphfdfpjmgiaa

namespace Go.Proofs.Ytfcphfdfpjmgiaa
open Go.RowKit

theorem run_f32frombits (d : Nat) (w : World) : (callFunc 182 #[.int .u32 d]).run Try.prog w = .ok (.value (.float .f32 d)) w := by
  rw [run_callFunc_extern (e := Extern.MathFloatBits.float32frombits) Try.func182 (by kernel_rfl) (by kernel_rfl) (by kernel_rfl) (by kernel_rfl)]
  rfl
section
variable {ops : Array Oper} {Q : Exit → Act → World → Prop} {rest : List Oper} {a : Act} {w : World} {dst : Option Tmp} {ty : TypeId} {X Y : Operand} {pos : String} {after : Array Edge} {B : Nat} {t : TypeId}
theorem run_lit4 (w : World) : (Instr.buildSlice 68 4 #[(0, .int .i64 1), (1, .int .i64 10), (2, .int .i64 50), (3, .int .i64 200)]).run Try.prog w = .ok (.slice (some ⟨w.heap.size, 0, none⟩) 4 4) (w.alloc (.cells #[.int .i64 1, .int .i64 10, .int .i64 50, .int .i64 200] 2)) := by kernel_rfl
theorem wpList_lit4 (h : ∀ b' w', w.heap.size ≤ b' → b' < w'.heap.size → Blk w' b' #[.int .i64 1, .int .i64 10, .int .i64 50, .int .i64 200] 2 → Below w.heap.size w w' → wpList Try.prog ops Q rest (a.put dst (.slice (some ⟨b', 0, none⟩) 4 4)) w') :
    wpList Try.prog ops Q (⟨dst, .buildSlice 68 4 #[(0, .const (.int .i64 1)), (1, .const (.int .i64 10)), (2, .const (.int .i64 50)), (3, .const (.int .i64 200))], ty, pos, after, none⟩ :: rest) a w :=
  wpList_ran rfl (v := .slice (some ⟨w.heap.size, 0, none⟩) 4 4) (w' := w.alloc (.cells #[.int .i64 1, .int .i64 10, .int .i64 50, .int .i64 200] 2)) (by simp [execOp, Act.eval, run_lit4]) (h _ _ (Nat.le_refl _) (by simp) (Blk.new _ _ _) ((Below.refl _ _).alloc (Nat.le_refl _) _))
theorem run_buildB (g : G) (R : Nat) (w : World) : (Instr.build 54 #[(0, .agg (arrG g)), (3, .float .f32 R)]).run Try.prog w = .ok (.agg (arrB ⟨g, fun _ => 0, fun _ => 0, R⟩)) w := by kernel_rfl
theorem wpList_buildB {g : G} {R : Nat} (hx : a.eval X = .agg (arrG g)) (hy : a.eval Y = .float .f32 R) (h : wpList Try.prog ops Q rest (a.put dst (.agg (arrB ⟨g, fun _ => 0, fun _ => 0, R⟩))) w) :
    wpList Try.prog ops Q (⟨dst, .build 54 #[(0, X), (3, Y)], ty, pos, after, none⟩ :: rest) a w :=
  wpList_ran rfl (v := .agg (arrB ⟨g, fun _ => 0, fun _ => 0, R⟩)) (w' := w) (by simp [execOp, hx, hy, run_buildB]) h
theorem cell_setP (x : Br) {k : Nat} (hk : k < 64) (r i : Nat) : Br.cell { x with p := upd x.p k r } i = if i = 259 + k then .float .f32 r else x.cell i := by
  unfold Br.cell upd
  by_cases e : i = 259 + k
  · subst e
    rw [if_neg (by omega), if_neg (by omega), if_pos (by omega)]
    dsimp only
    rw [if_pos (by omega), if_pos rfl]
  · rw [if_neg e]
    by_cases h1 : i < 195
    · rw [if_pos h1, if_pos h1]
    · rw [if_neg h1, if_neg h1]
      by_cases h2 : i < 259
      · rw [if_pos h2, if_pos h2]
      · rw [if_neg h2, if_neg h2]
        by_cases h3 : i < 323
        · rw [if_pos h3, if_pos h3]
          dsimp only
          rw [if_neg (by omega)]
        · rw [if_neg h3, if_neg h3]
/-- A spring's number is stored. -/
theorem wpList_setP {x : Br} {k r : Nat} (hg : Blk w B (arrB x) t) (hk : k < 64) (hx : a.eval X = .pointer (some ⟨B, 259 + k, none⟩)) (hy : a.eval Y = .float .f32 r)
    (h : ∀ w', w'.heap.size = w.heap.size → Blk w' B (arrB { x with p := upd x.p k r }) t → w.grownBy w' (some B) → wpList Try.prog ops Q rest (a.put dst undef) w') : wpList Try.prog ops Q (⟨dst, .store 25 X Y, ty, pos, after, none⟩ :: rest) a w :=
  wpList_put1 size32 hg (by rw [arrB_size]; omega) hx hy rfl rfl (by rw [arrB_set1 (by omega) fun i _ => cell_setP x hk r i]; exact h)
end

set_option maxRecDepth 100000 in
set_option maxHeartbeats 800000 in
theorem amongS {w0 w wr : World} {b n q m gq cap : Nat} {v : Value} {f : Nat → Int} (hs : SrcIn w0 w b n v) (h : StAt w b v q wr) (hq : q ≤ 100000) (hm : 2 ≤ m) (hm2 : m ≤ 65536) (hne : gq ≠ b) (hL : ∀ j, j < m → wr.cell? ⟨gq, j, none⟩ = some (.int .i64 (f j))) :
    Calls Try.prog 181 #[.pointer (some ⟨b, 0, none⟩), .slice (some ⟨gq, 0, none⟩) m cap] wr fun e w' => ∃ z : Nat, e = .returned (.int .i64 (f z)) ∧ z < m ∧ StAt w b v (q + 2) w' ∧ wr.grownBy w' (some b) := by
  have HS := Lib.hid hs
  have HT := Lib.hid h
  have HL := Lib.hid hL
  clear hs h hL
  go_enter Try.func181, Try.ntmps181
  go_wp2_with fail
  refine (pickS HS.out HT.out hq hm hm2).mono ?_
  rintro e w1 ⟨z, rfl, hz, hst, hg⟩
  have HST := Lib.hid hst
  have HG := Lib.hid hg
  have hc := cell_grown (HL.out z hz) hg hne
  have hz1 : (z : Int) < (m : Int) := by omega
  clear hst hg
  go_wp2_with fail
  go_ret
  exact ⟨z, rfl, hz, HST.out, HG.out⟩

/-- A cell in the course of its draw. -/
structure Mid (x x1 : Br) (k : Nat) : Prop where
  gr : x1.gr = x.gr
  room : x1.room = x.room
  s : ∀ j, j ≠ k → x1.s j = x.s j
  p : ∀ j, j ≠ k → x1.p j = x.p j
  sd : SaltD (x1.s k)
  pd : SprD (x1.p k)
theorem Mid.start {x : Br} {k : Nat} (h : DrB x k) : Mid x x k := by
  have := h.out k (.inl (Nat.le_refl _))
  exact ⟨rfl, rfl, fun _ _ => rfl, fun _ _ => rfl, by rw [this.1]; exact saltD_zero, by rw [this.2]; exact sprD_zero⟩
theorem Mid.setS {x x1 : Br} {k r : Nat} (m : Mid x x1 k) (h : SaltD r) : Mid x { x1 with s := upd x1.s k r } k :=
  ⟨m.gr, m.room, fun j hj => by show upd x1.s k r j = _; unfold upd; rw [if_neg hj]; exact m.s j hj, m.p, by show SaltD (upd x1.s k r k); unfold upd; rw [if_pos rfl]; exact h, m.pd⟩
theorem Mid.setP {x x1 : Br} {k r : Nat} (m : Mid x x1 k) (h : SprD r) : Mid x { x1 with p := upd x1.p k r } k :=
  ⟨m.gr, m.room, m.s, fun j hj => by show upd x1.p k r j = _; unfold upd; rw [if_neg hj]; exact m.p j hj, m.sd, by show SprD (upd x1.p k r k); unfold upd; rw [if_pos rfl]; exact h⟩
theorem Mid.done {x x1 : Br} {k : Nat} (m : Mid x x1 k) (h : DrB x k) (hh : hasB x.gr.wide x.gr.high k = true) : DrB x1 (k + 1) := by
  have := h.put hh m.s m.p m.sd m.pd
  obtain ⟨g, s, p, r⟩ := x1
  obtain rfl : g = x.gr := m.gr
  obtain rfl : r = x.room := m.room
  exact this
theorem fbits_q {r : Nat} {z : Int} (h : Is r (qF z)) (h1 : -32 ≤ z) (h2 : z ≤ 72) : r = qB z := fb_bits (h.out.trans (qF_eq h1 h2).1)

def DrbRel (w : World) (b : Nat) (v : Value) (q0 B C : Nat) (v4 : Value) (wr : World) : Prop :=
  ∃ (k q : Nat) (x : Br), k ≤ 64 ∧ v4 = .int .i64 k ∧ DrB x k ∧ Blk wr B (arrB x) 54 ∧ Blk wr C (arrB B0) 54 ∧ StAt w b v q wr ∧ q ≤ q0 + 12 * k
def RetDrB (w : World) (b : Nat) (v : Value) (q0 : Nat) (e : Ending) (w' : World) : Prop :=
  ∃ x q, e = .returned (.agg (arrB x)) ∧ DrawnB x ∧ StAt w b v q w' ∧ q ≤ q0 + 3000
theorem room_all : ∀ z : Fin 4, ofI ((#[1, 10, 50, 200] : Array Int).getD z.val 0) = some ((#[1065353216, 1092616192, 1112014848, 1128792064] : Array Nat).getD z.val 0) := by decide +kernel
set_option maxRecDepth 100000 in
set_option maxHeartbeats 8000000 in
theorem l05Drawn_any {w0 w : World} {b n q0 : Nat} {v : Value} (hs : SrcIn w0 w b n v) (hq : q0 ≤ 1000) (h : StAt w b v q0 w) :
    Calls Try.prog 120 #[.pointer (some ⟨b, 0, none⟩)] w (RetDrB w b v q0) := by
  have HS := Lib.hid hs
  have HT := Lib.hid h
  have hbl := hs.lt
  clear hs h
  go_enter Try.func120, Try.ntmps120
  go_wp2_with (with_reducible refine wpList_new newB ?_)
  intro C wC hC1 hC2 hC3 hC4
  have HC := Lib.hid hC3
  have HT1 := Lib.hid (HT.out.far hC4)
  have HS1 : Hid (SrcIn w0 wC b n v) := ⟨HS.out.hn, HS.out.bytes, HS.out.below.trans (hC4.mono HS.out.below.size), HS.out.le, by omega⟩
  have HC4 := Lib.hid hC4
  clear hC3 hC4 HT
  go_wp2_with fail
  refine (l01Drawn_any HS1.out (by omega) (⟨HT1.out.src, grown_refl _ _⟩ : StAt wC b v q0 wC)).mono ?_
  rintro e w1 ⟨g, q1, rfl, hd, hst, hq1⟩
  have HD := Lib.hid hd
  have HT2 : Hid (StAt w b v q1 w1) := ⟨hst.src, grown_trans HT1.out.grow hst.grow⟩
  have HC2 := Lib.hid (HC.out.grown hst.grow (by omega))
  have hs1 := hst.grow.size
  clear hd hst
  go_wp2_with (with_reducible refine wpList_lit4 ?_)
  intro L w2 hL1 hL2 hL3 hL4
  have HT3 := Lib.hid (HT2.out.far hL4)
  have HC3 := Lib.hid (HC2.out.later hL4)
  have HL := Lib.hid hL3
  have hs2 := hL4.size
  clear hL3 hL4 HT1 HT2 HC HC2
  go_wp2_with fail
  refine (amongS (f := fun j => (#[1, 10, 50, 200] : Array Int).getD j 0) HS.out HT3.out (by omega) (m := 4) (by omega) (by omega) (by omega) (fun j hj => ?_)).mono ?_
  · have e : j = 0 ∨ j = 1 ∨ j = 2 ∨ j = 3 := by omega
    rcases e with rfl | rfl | rfl | rfl <;> exact HL.out.at rfl
  rintro e w3 ⟨z, rfl, hz, hst, hg⟩
  have HT4 := Lib.hid hst
  have HC4 := Lib.hid (HC3.out.grown hg (by omega))
  have hs3 := hg.size
  obtain ⟨R, hR⟩ : ∃ R, (#[1065353216, 1092616192, 1112014848, 1128792064] : Array Nat).getD z 0 = R := ⟨_, rfl⟩
  have HRD : Hid (RoomD R) := by
    show _
    have e : z = 0 ∨ z = 1 ∨ z = 2 ∨ z = 3 := by omega
    rw [← hR]
    rcases e with rfl | rfl | rfl | rfl
    · exact .inl rfl
    · exact .inr (.inl rfl)
    · exact .inr (.inr (.inl rfl))
    · exact .inr (.inr (.inr rfl))
  have HRI : Hid (ofI ((#[1, 10, 50, 200] : Array Int).getD z 0) = some R) := by show _ = _; rw [← hR]; exact room_all ⟨z, hz⟩
  obtain ⟨y, hy⟩ : ∃ y : Int, (#[1, 10, 50, 200] : Array Int).getD z 0 = y := ⟨_, rfl⟩
  rw [hy] at HRI
  have HRF : Hid (floatOfInt FloatKind.f32 y = R) := by
    have h : fb (floatOfInt FloatKind.f32 y) = ofI y := Is.ofI y
    exact fb_bits (h.trans HRI.out)
  obtain ⟨x0, hx0⟩ : ∃ x0 : Br, x0 = ⟨g, fun _ => 0, fun _ => 0, R⟩ := ⟨_, rfl⟩
  have HDB : Hid (DrB x0 0) := by rw [hx0]; exact DrB.start HD.out HRD.out
  have HX0 := Lib.hid hx0
  dsimp only
  rw [hy]
  clear hst hg hR hy HT3 HC3 HL hx0
  go_wp2_with (first | (with_reducible refine wpList_new newB ?_) | ((with_reducible refine wpList_buildB (g := g) (R := R) ?_ ?_ ?_); rfl; (exact congrArg (Value.float .f32) HRF.out)))
  intro B wB hB1 hB2 hB3 hB4
  have hCB : C < B := by omega
  have hwB : w.heap.size ≤ B := by omega
  have hwC : w.heap.size ≤ C := hC1
  have HT5 := Lib.hid (HT4.out.far hB4)
  have HC5 := Lib.hid (HC4.out.later hB4)
  clear hB4 HT4 HC4
  go_wp2_with ((with_reducible refine wpList_putB (x := x0) hB3 ?_ ?_ ?_); rfl; (rw [HX0.out]; rfl))
  intro w5 s5 b5 k5
  have HB6 := Lib.hid b5
  have HT6 := Lib.hid (HT5.out.other k5 hwB hbl)
  have HC6 := Lib.hid (HC5.out.grown k5 (by omega))
  clear hB3 b5 k5 HT5 HC5 HX0 HRF HRI
  go_wp2_with fail
  go_loopw [4] (fun v4 wr => DrbRel w b v (q0 + 1010) B C v4 wr) (fun v4 _ => 64 - (intOf v4).toNat)
  case atStart => exact ⟨0, _, x0, by omega, rfl, HDB.out, HB6.out, HC6.out, HT6.out, by omega⟩
  case round =>
    obtain ⟨k, q, x, hk, rfl, hd, hb, hc, ht, hqq⟩ := hrel
    have HD := Lib.hid hd
    have HB := Lib.hid hb
    have HC := Lib.hid hc
    have HT := Lib.hid ht
    have hr := hd.gr.rng
    clear hd hb hc ht HB6 HC6 HT6
    by_cases hlt : k < 64
    · have k1 : (k : Int) < 64 := by omega
      cases hh : hasB x.gr.wide x.gr.high k
      · have HH := Lib.hid hh
        clear hh
        go_wp2_with (go_at_call 111; refine (l01Is_any B 0 k x.gr _ hlt hr (BAt.of_blk HB.out).g).mono ?_; rw [HH.out]; rintro e w' ⟨rfl, rfl⟩)
        go_roundw
        case rel => exact ⟨k + 1, q, x, by omega, by go_num, HD.out.skip HH.out, HB.out, HC.out, HT.out, by omega⟩
        case measure => simp [intOf]; omega
      · have HH := Lib.hid hh
        have HM := Lib.hid (Mid.start (k := k) HD.out)
        clear hh
        go_wp2_with (go_at_call 111; refine (l01Is_any B 0 k x.gr _ hlt hr (BAt.of_blk HB.out).g).mono ?_; rw [HH.out]; rintro e w' ⟨rfl, rfl⟩)
        refine (oneS HS.out HT.out (by omega) (m := 2) (by omega) (by omega)).mono ?_
        rintro e y ⟨o0, rfl, hst, hg⟩
        have HT := Lib.hid hst
        have HB := Lib.hid (HB.out.grown hg (by omega))
        have HC := Lib.hid (HC.out.grown hg (by omega))
        clear hst hg
        cases o0
        · go_wp2_with fail
          refine (oneS HS.out HT.out (by omega) (m := 4) (by omega) (by omega)).mono ?_
          rintro e y ⟨o1, rfl, hst, hg⟩
          have HT := Lib.hid hst
          have HB := Lib.hid (HB.out.grown hg (by omega))
          have HC := Lib.hid (HC.out.grown hg (by omega))
          clear hst hg
          cases o1
          · go_wp2_with fail
            refine (oneS HS.out HT.out (by omega) (m := 24) (by omega) (by omega)).mono ?_
            rintro e y ⟨o2, rfl, hst, hg⟩
            have HT := Lib.hid hst
            have HB := Lib.hid (HB.out.grown hg (by omega))
            have HC := Lib.hid (HC.out.grown hg (by omega))
            clear hst hg
            cases o2
            · go_wp2_with fail
              go_roundw
              case rel => exact ⟨k + 1, _, x, by omega, by go_num, HM.out.done HD.out HH.out, HB.out, HC.out, HT.out, by omega⟩
              case measure => simp [intOf]; omega
            · go_wp2_with fail
              refine (pickS HS.out HT.out (by omega) (m := 4000) (by omega) (by omega)).mono ?_
              rintro e y ⟨z, rfl, hz, hst, hg⟩
              have HT := Lib.hid hst
              have HB := Lib.hid (HB.out.grown hg (by omega))
              have HC := Lib.hid (HC.out.grown hg (by omega))
              clear hst hg
              have hz1 : (z : Int) < 4000 := by omega
              have w32 : IntKind.u32.wrap (z : Int) = (z : Int) := by simp only [IntKind.wrap, IntKind.bits, IntKind.signed]; simp; omega
              have hrun := run_f32frombits
              go_wp2_with ((with_reducible refine wpList_setS (k := k) (r := z) HB.out hlt ?_ ?_ ?_); rfl; rfl)
              intro y2 s2 b2 k2
              have HT := Lib.hid (HT.out.other k2 hwB hbl)
              have HC := Lib.hid (HC.out.grown k2 (by omega))
              obtain ⟨x1, hx1⟩ : ∃ x1 : Br, x1 = { x with s := upd x.s k z } := ⟨_, rfl⟩
              rw [← hx1] at b2
              have HB := Lib.hid b2
              have HM : Hid (Mid x x1 k) := by rw [hx1]; exact HM.out.setS (.inr hz)
              clear b2 k2 hx1 hz1 w32 hrun
              go_wp2_with fail
              go_roundw
              case rel => exact ⟨k + 1, _, x1, by omega, by go_num, HM.out.done HD.out HH.out, HB.out, HC.out, HT.out, by omega⟩
              case measure => simp [intOf]; omega
          · go_wp2_with fail
            refine (pickS HS.out HT.out (by omega) (m := 12) (by omega) (by omega)).mono ?_
            rintro e y ⟨z, rfl, hz, hst, hg⟩
            have HT := Lib.hid hst
            have HB := Lib.hid (HB.out.grown hg (by omega))
            have HC := Lib.hid (HC.out.grown hg (by omega))
            clear hst hg
            have hz1 : (z : Int) < 12 := by omega
            go_wp2_with (first | ((with_reducible refine wpList_gate ?_); refine wpList_arith _ _ rfl rfl rfl ?_; intro r n hr9) | ((with_reducible refine wpList_setP (k := k) (r := r) (HB.out.drewN _) hlt ?_ ?_ ?_); rfl; rfl))
            intro y2 s2 b2 k2
            have HT := Lib.hid ((HT.out.drewN _).other k2 hwB hbl)
            have HC := Lib.hid ((HC.out.drewN _).grown k2 (by omega))
            have HR : r = qB z := fbits_q (hr9.op (Is.ofI _) rfl) (by omega) (by omega)
            obtain ⟨x1, hx1⟩ : ∃ x1 : Br, x1 = { x with p := upd x.p k r } := ⟨_, rfl⟩
            rw [← hx1] at b2
            have HB := Lib.hid b2
            have HM : Hid (Mid x x1 k) := by rw [hx1]; exact HM.out.setP ⟨z, by omega, HR⟩
            clear b2 k2 hx1 hz1 hr9 HR
            go_wp2_with fail
            refine (oneS HS.out HT.out (by omega) (m := 24) (by omega) (by omega)).mono ?_
            rintro e y ⟨o2, rfl, hst, hg⟩
            have HT := Lib.hid hst
            have HB := Lib.hid (HB.out.grown hg (by omega))
            have HC := Lib.hid (HC.out.grown hg (by omega))
            clear hst hg
            cases o2
            · go_wp2_with fail
              go_roundw
              case rel => exact ⟨k + 1, _, x1, by omega, by go_num, HM.out.done HD.out HH.out, HB.out, HC.out, HT.out, by omega⟩
              case measure => simp [intOf]; omega
            · go_wp2_with fail
              refine (pickS HS.out HT.out (by omega) (m := 4000) (by omega) (by omega)).mono ?_
              rintro e y ⟨z, rfl, hz, hst, hg⟩
              have HT := Lib.hid hst
              have HB := Lib.hid (HB.out.grown hg (by omega))
              have HC := Lib.hid (HC.out.grown hg (by omega))
              clear hst hg
              have hz1 : (z : Int) < 4000 := by omega
              have w32 : IntKind.u32.wrap (z : Int) = (z : Int) := by simp only [IntKind.wrap, IntKind.bits, IntKind.signed]; simp; omega
              have hrun := run_f32frombits
              go_wp2_with ((with_reducible refine wpList_setS (k := k) (r := z) HB.out hlt ?_ ?_ ?_); rfl; rfl)
              intro y2 s2 b2 k2
              have HT := Lib.hid (HT.out.other k2 hwB hbl)
              have HC := Lib.hid (HC.out.grown k2 (by omega))
              obtain ⟨x2, hx2⟩ : ∃ x2 : Br, x2 = { x1 with s := upd x1.s k z } := ⟨_, rfl⟩
              rw [← hx2] at b2
              have HB := Lib.hid b2
              have HM : Hid (Mid x x2 k) := by rw [hx2]; exact HM.out.setS (.inr hz)
              clear b2 k2 hx2 hz1 w32 hrun
              go_wp2_with fail
              go_roundw
              case rel => exact ⟨k + 1, _, x2, by omega, by go_num, HM.out.done HD.out HH.out, HB.out, HC.out, HT.out, by omega⟩
              case measure => simp [intOf]; omega
        · go_wp2_with fail
          refine (pickS HS.out HT.out (by omega) (m := 40) (by omega) (by omega)).mono ?_
          rintro e y ⟨z, rfl, hz, hst, hg⟩
          have HT := Lib.hid hst
          have HB := Lib.hid (HB.out.grown hg (by omega))
          have HC := Lib.hid (HC.out.grown hg (by omega))
          clear hst hg
          have hz1 : (z : Int) < 40 := by omega
          go_wp2_with (first | ((with_reducible refine wpList_gate ?_); refine wpList_arith _ _ rfl rfl rfl ?_; intro r n hr9) | ((with_reducible refine wpList_setS (k := k) (r := r) (HB.out.drewN _) hlt ?_ ?_ ?_); rfl; rfl))
          intro y2 s2 b2 k2
          have HT := Lib.hid ((HT.out.drewN _).other k2 hwB hbl)
          have HC := Lib.hid ((HC.out.drewN _).grown k2 (by omega))
          have HR : r = qB z := fbits_q (hr9.op (Is.ofI _) rfl) (by omega) (by omega)
          obtain ⟨x1, hx1⟩ : ∃ x1 : Br, x1 = { x with s := upd x.s k r } := ⟨_, rfl⟩
          rw [← hx1] at b2
          have HB := Lib.hid b2
          have HM : Hid (Mid x x1 k) := by rw [hx1]; exact HM.out.setS (.inl ⟨z, by omega, HR⟩)
          clear b2 k2 hx1 hz1 hr9 HR
          go_wp2_with fail
          refine (oneS HS.out HT.out (by omega) (m := 4) (by omega) (by omega)).mono ?_
          rintro e y ⟨o1, rfl, hst, hg⟩
          have HT := Lib.hid hst
          have HB := Lib.hid (HB.out.grown hg (by omega))
          have HC := Lib.hid (HC.out.grown hg (by omega))
          clear hst hg
          cases o1
          · go_wp2_with fail
            refine (oneS HS.out HT.out (by omega) (m := 24) (by omega) (by omega)).mono ?_
            rintro e y ⟨o2, rfl, hst, hg⟩
            have HT := Lib.hid hst
            have HB := Lib.hid (HB.out.grown hg (by omega))
            have HC := Lib.hid (HC.out.grown hg (by omega))
            clear hst hg
            cases o2
            · go_wp2_with fail
              go_roundw
              case rel => exact ⟨k + 1, _, x1, by omega, by go_num, HM.out.done HD.out HH.out, HB.out, HC.out, HT.out, by omega⟩
              case measure => simp [intOf]; omega
            · go_wp2_with fail
              refine (pickS HS.out HT.out (by omega) (m := 4000) (by omega) (by omega)).mono ?_
              rintro e y ⟨z, rfl, hz, hst, hg⟩
              have HT := Lib.hid hst
              have HB := Lib.hid (HB.out.grown hg (by omega))
              have HC := Lib.hid (HC.out.grown hg (by omega))
              clear hst hg
              have hz1 : (z : Int) < 4000 := by omega
              have w32 : IntKind.u32.wrap (z : Int) = (z : Int) := by simp only [IntKind.wrap, IntKind.bits, IntKind.signed]; simp; omega
              have hrun := run_f32frombits
              go_wp2_with ((with_reducible refine wpList_setS (k := k) (r := z) HB.out hlt ?_ ?_ ?_); rfl; rfl)
              intro y2 s2 b2 k2
              have HT := Lib.hid (HT.out.other k2 hwB hbl)
              have HC := Lib.hid (HC.out.grown k2 (by omega))
              obtain ⟨x2, hx2⟩ : ∃ x2 : Br, x2 = { x1 with s := upd x1.s k z } := ⟨_, rfl⟩
              rw [← hx2] at b2
              have HB := Lib.hid b2
              have HM : Hid (Mid x x2 k) := by rw [hx2]; exact HM.out.setS (.inr hz)
              clear b2 k2 hx2 hz1 w32 hrun
              go_wp2_with fail
              go_roundw
              case rel => exact ⟨k + 1, _, x2, by omega, by go_num, HM.out.done HD.out HH.out, HB.out, HC.out, HT.out, by omega⟩
              case measure => simp [intOf]; omega
          · go_wp2_with fail
            refine (pickS HS.out HT.out (by omega) (m := 12) (by omega) (by omega)).mono ?_
            rintro e y ⟨z, rfl, hz, hst, hg⟩
            have HT := Lib.hid hst
            have HB := Lib.hid (HB.out.grown hg (by omega))
            have HC := Lib.hid (HC.out.grown hg (by omega))
            clear hst hg
            have hz1 : (z : Int) < 12 := by omega
            go_wp2_with (first | ((with_reducible refine wpList_gate ?_); refine wpList_arith _ _ rfl rfl rfl ?_; intro r n hr9) | ((with_reducible refine wpList_setP (k := k) (r := r) (HB.out.drewN _) hlt ?_ ?_ ?_); rfl; rfl))
            intro y2 s2 b2 k2
            have HT := Lib.hid ((HT.out.drewN _).other k2 hwB hbl)
            have HC := Lib.hid ((HC.out.drewN _).grown k2 (by omega))
            have HR : r = qB z := fbits_q (hr9.op (Is.ofI _) rfl) (by omega) (by omega)
            obtain ⟨x2, hx2⟩ : ∃ x2 : Br, x2 = { x1 with p := upd x1.p k r } := ⟨_, rfl⟩
            rw [← hx2] at b2
            have HB := Lib.hid b2
            have HM : Hid (Mid x x2 k) := by rw [hx2]; exact HM.out.setP ⟨z, by omega, HR⟩
            clear b2 k2 hx2 hz1 hr9 HR
            go_wp2_with fail
            refine (oneS HS.out HT.out (by omega) (m := 24) (by omega) (by omega)).mono ?_
            rintro e y ⟨o2, rfl, hst, hg⟩
            have HT := Lib.hid hst
            have HB := Lib.hid (HB.out.grown hg (by omega))
            have HC := Lib.hid (HC.out.grown hg (by omega))
            clear hst hg
            cases o2
            · go_wp2_with fail
              go_roundw
              case rel => exact ⟨k + 1, _, x2, by omega, by go_num, HM.out.done HD.out HH.out, HB.out, HC.out, HT.out, by omega⟩
              case measure => simp [intOf]; omega
            · go_wp2_with fail
              refine (pickS HS.out HT.out (by omega) (m := 4000) (by omega) (by omega)).mono ?_
              rintro e y ⟨z, rfl, hz, hst, hg⟩
              have HT := Lib.hid hst
              have HB := Lib.hid (HB.out.grown hg (by omega))
              have HC := Lib.hid (HC.out.grown hg (by omega))
              clear hst hg
              have hz1 : (z : Int) < 4000 := by omega
              have w32 : IntKind.u32.wrap (z : Int) = (z : Int) := by simp only [IntKind.wrap, IntKind.bits, IntKind.signed]; simp; omega
              have hrun := run_f32frombits
              go_wp2_with ((with_reducible refine wpList_setS (k := k) (r := z) HB.out hlt ?_ ?_ ?_); rfl; rfl)
              intro y2 s2 b2 k2
              have HT := Lib.hid (HT.out.other k2 hwB hbl)
              have HC := Lib.hid (HC.out.grown k2 (by omega))
              obtain ⟨x3, hx3⟩ : ∃ x3 : Br, x3 = { x2 with s := upd x2.s k z } := ⟨_, rfl⟩
              rw [← hx3] at b2
              have HB := Lib.hid b2
              have HM : Hid (Mid x x3 k) := by rw [hx3]; exact HM.out.setS (.inr hz)
              clear b2 k2 hx3 hz1 w32 hrun
              go_wp2_with fail
              go_roundw
              case rel => exact ⟨k + 1, _, x3, by omega, by go_num, HM.out.done HD.out HH.out, HB.out, HC.out, HT.out, by omega⟩
              case measure => simp [intOf]; omega
    · have k1 : ¬ (k : Int) < 64 := by omega
      obtain rfl : k = 64 := by omega
      have b1 := HB.out
      go_wp2_with (first | ((with_reducible refine wpList_getB b1 ?_ ?_); rfl) | ((with_reducible refine wpList_putB (x := x) HC.out ?_ ?_ ?_); rfl; rfl))
      intro x2 s2 b2 k2
      have HT := Lib.hid (HT.out.other k2 hwC hbl)
      clear k2
      go_wp2_with fail
      exact ret_cell1 rfl rfl (loadB b2) rfl ⟨_, q, rfl, HD.out, HT.out, by omega⟩

set_option maxRecDepth 100000 in
set_option maxHeartbeats 1600000 in
theorem A2Brine_any (v : Value) (n : Nat) (w : World) (hn : n ≤ 4096) (hv : BytesAt w v n) : Calls Try.prog 30 #[v] w fun e w' => ∃ x, e = .returned (.agg (arrB x)) ∧ DrawnB x ∧ Below w.heap.size w w' := by
  have h1 := hv.slice
  have HV := Lib.hid hv
  clear hv
  go_enter Try.func30, Try.ntmps30
  go_wp2_with (with_reducible refine wpList_new newB ?_)
  intro C wC hC1 hC2 hC3 hC4
  have HC := Lib.hid hC3
  have HBC := Lib.hid hC4
  clear hC3 hC4
  go_wp2_with fail
  refine (l00From_any v wC h1).mono ?_
  rintro e w1 ⟨b, rfl, hb, hs, hb1⟩
  have HB1 := Lib.hid (below_next HBC.out hb1)
  have HC1 := Lib.hid (HC.out.later hb1)
  have HS := Lib.hid (SrcIn.of hn HV.out HB1.out (by omega) hs)
  have HT : Hid (StAt w1 b v 0 w1) := ⟨hs, grown_refl _ _⟩
  clear hs hb1 h1
  go_wp2_with fail
  refine (l05Drawn_any HS.out (by omega) HT.out).mono ?_
  rintro e w2 ⟨x, q, rfl, hd, hst, hq⟩
  have HD := Lib.hid hd
  have HB2 := Lib.hid (hst.below HS.out)
  have HC2 := Lib.hid (HC1.out.grown hst.grow (by omega))
  clear hd hst
  go_wp2_with ((with_reducible refine wpList_putB (x := x) HC2.out ?_ ?_ ?_); rfl; rfl)
  intro w3 s3 b3 k3
  have HB3 := Lib.hid (below_grown HB2.out k3 HB2.out.size hC1)
  clear k3
  go_wp2_with fail
  exact ret_cell1 rfl rfl (loadB b3) rfl ⟨x, rfl, HD.out, HB3.out⟩

set_option maxRecDepth 100000 in
set_option maxHeartbeats 1600000 in
theorem A2Kept_any (v : Value) (n : Nat) (w : World) (hn : n ≤ 4096) (hv : BytesAt w v n) : Calls Try.prog 55 #[v] w fun e w' => ∃ a r, e = .returned (.tuple #[.float .f32 a, .float .f32 r]) ∧ (∃ z : Nat, z < 100 ∧ Is a (qF z)) ∧ (∃ z : Nat, z < 5 ∧ Is r (qF z)) ∧ Below w.heap.size w w' := by
  have h1 := hv.slice
  have HV := Lib.hid hv
  clear hv
  go_enter Try.func55, Try.ntmps55
  go_wp2_with fail
  refine (l00From_any v w h1).mono ?_
  rintro e w1 ⟨b, rfl, hb, hs, hb1⟩
  have HB1 := Lib.hid hb1
  have HS := Lib.hid (SrcIn.of hn HV.out HB1.out (by omega) hs)
  have HT : Hid (StAt w1 b v 0 w1) := ⟨hs, grown_refl _ _⟩
  clear hs hb1 h1
  go_wp2_with fail
  refine (pickS HS.out HT.out (by omega) (m := 100) (by omega) (by omega)).mono ?_
  rintro e w2 ⟨z, rfl, hz, hst, hg⟩
  have HT2 := Lib.hid hst
  have hz1 : (z : Int) < 100 := by omega
  clear hst hg
  go_wp2_with (first | ((with_reducible refine wpList_gate ?_); refine wpList_arith _ _ rfl rfl rfl ?_; intro r n hr))
  refine (pickS HS.out (HT2.out.drewN _) (by omega) (m := 5) (by omega) (by omega)).mono ?_
  rintro e w3 ⟨y, rfl, hy, hst, hg⟩
  have HT3 := Lib.hid hst
  have HA : Hid (Is r (qF z)) := hr.op (Is.ofI _) rfl
  have hy1 : (y : Int) < 5 := by omega
  clear hst hg hr
  go_wp2_with (first | ((with_reducible refine wpList_gate ?_); refine wpList_arith _ _ rfl rfl rfl ?_; intro r2 n2 hr2))
  go_ret2
  exact ⟨_, _, rfl, ⟨z, hz, HA.out⟩, ⟨y, hy, hr2.op (Is.ofI _) rfl⟩, (HT3.out.drewN _).below HS.out⟩
end Go.Proofs.Ytfcphfdfpjmgiaa

namespace Go.Proofs.Ytfcphfdfpjmgiaa
open Go.RowKit

def mixOk (x : F) : Bool := fge x (fb 0) && fle x (fb 1065353216)
theorem mix_cases {x : F} (h : ford x (fb 0) ≠ none) : fle x (fb 1065353216) = !fgt x (fb 1065353216) := by
  have h2 : ford x (fb 1065353216) ≠ none := fun hn => h (ford_none (a := 1065353216) (by rw [fbOne] at hn; exact hn) (by decide))
  unfold fle flt feq fgt
  cases ho : ford x (fb 1065353216) with
  | none => exact absurd ho h2
  | some o => cases o <;> rfl
theorem mix_no {x : F} (h : mixOk x = false) : (fgt x (fb 0) = false ∧ feq x (fb 0) = false) ∨ (fgt x (fb 0) = true ∧ fgt x (fb 1065353216) = true ∧ flt x (fb 1065353216) = false ∧ feq x (fb 1065353216) = false) ∨
    (fgt x (fb 0) = false ∧ feq x (fb 0) = true ∧ fgt x (fb 1065353216) = true ∧ flt x (fb 1065353216) = false ∧ feq x (fb 1065353216) = false) := by
  unfold mixOk fge at h
  cases h1 : fgt x (fb 0) <;> cases h2 : feq x (fb 0) <;> simp [h1, h2] at h ⊢
  all_goals
    have hn : ford x (fb 0) ≠ none := by
      intro hn
      unfold fgt at h1
      unfold feq at h2
      rw [hn] at h1 h2
      simp at h1 h2
    have := mix_cases hn
    rw [h] at this
    unfold fle at h
    simp at h this
    exact ⟨this, h⟩
theorem mix_yes {x : F} (h : mixOk x = true) : (fgt x (fb 0) = true ∨ (fgt x (fb 0) = false ∧ feq x (fb 0) = true)) ∧ fgt x (fb 1065353216) = false ∧ (flt x (fb 1065353216) = true ∨ (flt x (fb 1065353216) = false ∧ feq x (fb 1065353216) = true)) := by
  unfold mixOk at h
  simp only [Bool.and_eq_true] at h
  obtain ⟨h1, h2⟩ := h
  have hn : ford x (fb 0) ≠ none := by
    intro hn
    unfold fge fgt feq at h1
    rw [hn] at h1
    simp at h1
  have h3 := mix_cases hn
  rw [h2] at h3
  refine ⟨?_, by simpa using h3, ?_⟩
  · unfold fge at h1
    cases hg : fgt x (fb 0)
    · rw [hg] at h1; exact .inr ⟨rfl, h1⟩
    · exact .inl rfl
  · unfold fle at h2
    cases hg : flt x (fb 1065353216)
    · rw [hg] at h2; exact .inr ⟨rfl, h2⟩
    · exact .inl rfl

def mixS (a b : N) (t : F) (c : Nat) : F := fadd (a.s c) (fmul t (fsub (b.s c) (a.s c)))
def mixN (a b : N) (t : F) : N := { a with s := updL a.s (mixS a b t) (cellsTo a.g.wide a.g.high 64) }
def mixR (a b : N) (t : F) : N × Int :=
  if okB a then (if okB b then (if mixOk t then (if a.g.wide = b.g.wide then (if a.g.high = b.g.high then (if okB (mixN a b t) then (mixN a b t, 0) else (B0.n, 4)) else (B0.n, 4)) else (B0.n, 4)) else (B0.n, 2)) else (B0.n, 1)) else (B0.n, 1)
section
variable {ops : Array Oper} {Q : Exit → Act → World → Prop} {rest : List Oper} {a : Act} {w : World} {dst : Option Tmp} {ty : TypeId} {X : Operand} {pos : String} {after : Array Edge} {B : Nat} {t : TypeId} {gd : Option (Nat × Bool)}
theorem wpList_getBgd {x : Br} (hgd : Region.wanted ⟨dst, .load 54 X, ty, pos, after, gd⟩ (yielded ops a.tmps) = true) (hg : Blk w B (arrB x) t) (hx : a.eval X = .pointer (some ⟨B, 0, none⟩))
    (h : wpList Try.prog ops Q rest (a.put dst (.agg (arrB x))) w) : wpList Try.prog ops Q (⟨dst, .load 54 X, ty, pos, after, gd⟩ :: rest) a w := by
  refine wpList_step fun K hK => ?_
  rw [if_pos hgd]
  unfold Oper.wp
  have hl := loadB hg
  have : (execOp a.eval ⟨dst, .load 54 X, ty, pos, after, gd⟩).run Try.prog w = .ok (.value (.agg (arrB x))) w := by
    simp only [execOp, hx, Instr.loadAt, Instr.sureAddr]
    simp [hl]
  rw [this]
  exact hK _ _ h
end
theorem rng_cell {w : World} {b : Nat} {x : Br} (h : BAt w b x) : w.cell? ⟨b, 0, none⟩ = some (.int .i8 x.gr.wide) ∧ w.cell? ⟨b, 1, none⟩ = some (.int .i8 x.gr.high) := ⟨h 0 (by omega), h 1 (by omega)⟩

set_option maxRecDepth 100000 in
set_option maxHeartbeats 3200000 in
theorem MixBrines_any (x y : Br) (t : Nat) (w : World) (hr : x.gr.Rng) (hx : x.gr.Fx) (hr' : y.gr.Rng) (hx' : y.gr.Fx) :
    Calls Try.prog 60 #[.agg (arrB x), .agg (arrB y), .float .f32 t] w (RetBC' (mixR x.n y.n (fb t)) w) := by
  have hgt' := order_gt
  have hlt' := order_lt
  have heq' := order_eq
  cases hok : okB x.n
  · have HW : Hid (mixR x.n y.n (fb t) = (B0.n, 1)) := by show _ = _; unfold mixR; rw [hok]; rfl
    have HOK := Lib.hid hok
    clear hok
    go_enter Try.func60, Try.ntmps60
    go_wp2_with (with_reducible refine wpList_box rfl ?_)
    intro b w0 hB1 hB2 hB3 hB4
    go_wp2_with (with_reducible refine wpList_box rfl ?_)
    intro c w1 hC1 hC2 hC3 hC4
    go_wp2_with (with_reducible refine wpList_new newB ?_)
    intro R w2 hR1 hR2 hR3 hR4
    have hX2 := (hB3.later hC4).later hR4
    have hY2 := hC3.later hR4
    have hbc : b < c := by have := hC1; omega
    have hcR : c < R := by have := hR1; omega
    have HB2 := Lib.hid ((hB4.trans (hC4.mono hB4.size)).trans (hR4.mono (Nat.le_trans hB4.size hC4.size)))
    have hwb : w.heap.size ≤ b := hB1
    have hwR : w.heap.size ≤ R := by omega
    clear hB3 hB4 hC3 hC4 hR4
    go_wp2_with ((with_reducible refine wpList_getB hX2 ?_ ?_); rfl)
    refine (ValidBrine_any x w2 hr hx).mono ?_
    rw [HOK.out]
    rintro e w3 ⟨rfl, hb3⟩
    have hX3 := hX2.later hb3
    have hY3 := hY2.later hb3
    have hR3' := hR3.later hb3
    have HB3 := Lib.hid (HB2.out.trans (hb3.mono HB2.out.size))
    clear hb3 hX2 hY2 hR3
    go_wp2_with (first | (with_reducible refine wpList_zero (zeroB _) ?_) | ((with_reducible refine wpList_putB (x := B0) hR3' ?_ ?_ ?_); rfl; rfl))
    intro w20 s20 b20 k20
    go_wp2_with fail
    refine ret_cell2 rfl rfl (loadB b20) rfl ⟨B0, by rw [HW.out]; rfl, by rw [HW.out], ?_⟩
    exact below_grown HB3.out k20 HB3.out.size hwR
  cases hoy : okB y.n
  · have HW : Hid (mixR x.n y.n (fb t) = (B0.n, 1)) := by show _ = _; unfold mixR; rw [hok, hoy]; rfl
    have HOK := Lib.hid hok
    have HOY := Lib.hid hoy
    clear hok hoy
    go_enter Try.func60, Try.ntmps60
    go_wp2_with (with_reducible refine wpList_box rfl ?_)
    intro b w0 hB1 hB2 hB3 hB4
    go_wp2_with (with_reducible refine wpList_box rfl ?_)
    intro c w1 hC1 hC2 hC3 hC4
    go_wp2_with (with_reducible refine wpList_new newB ?_)
    intro R w2 hR1 hR2 hR3 hR4
    have hX2 := (hB3.later hC4).later hR4
    have hY2 := hC3.later hR4
    have hbc : b < c := by have := hC1; omega
    have hcR : c < R := by have := hR1; omega
    have HB2 := Lib.hid ((hB4.trans (hC4.mono hB4.size)).trans (hR4.mono (Nat.le_trans hB4.size hC4.size)))
    have hwb : w.heap.size ≤ b := hB1
    have hwR : w.heap.size ≤ R := by omega
    clear hB3 hB4 hC3 hC4 hR4
    go_wp2_with ((with_reducible refine wpList_getB hX2 ?_ ?_); rfl)
    refine (ValidBrine_any x w2 hr hx).mono ?_
    rw [HOK.out]
    rintro e w3 ⟨rfl, hb3⟩
    have hX3 := hX2.later hb3
    have hY3 := hY2.later hb3
    have hR3' := hR3.later hb3
    have HB3 := Lib.hid (HB2.out.trans (hb3.mono HB2.out.size))
    clear hb3 hX2 hY2 hR3
    go_wp2_with ((with_reducible refine wpList_getBgd ?_ hY3 ?_ ?_); (exact rfl); rfl)
    refine (ValidBrine_any y w3 hr' hx').mono ?_
    rw [HOY.out]
    rintro e w4 ⟨rfl, hb4⟩
    have hX4 := hX3.later hb4
    have hY4 := hY3.later hb4
    have hR4 := hR3'.later hb4
    have HB4 := Lib.hid (HB3.out.trans (hb4.mono HB3.out.size))
    clear hb4 hX3 hY3 hR3'
    go_wp2_with (first | (with_reducible refine wpList_zero (zeroB _) ?_) | ((with_reducible refine wpList_putB (x := B0) hR4 ?_ ?_ ?_); rfl; rfl))
    intro w20 s20 b20 k20
    go_wp2_with fail
    refine ret_cell2 rfl rfl (loadB b20) rfl ⟨B0, by rw [HW.out]; rfl, by rw [HW.out], ?_⟩
    exact below_grown HB4.out k20 HB4.out.size hwR
  cases hsh : mixOk (fb t)
  · have HW : Hid (mixR x.n y.n (fb t) = (B0.n, 2)) := by show _ = _; unfold mixR; rw [hok, hoy, hsh]; rfl
    have HOK := Lib.hid hok
    have HOY := Lib.hid hoy
    rcases mix_no hsh with ⟨s1, s2⟩ | ⟨s1, s2, s3, s4⟩ | ⟨s1, s2, s3, s4, s5⟩
    · clear hok hoy hsh
      go_enter Try.func60, Try.ntmps60
      go_wp2_with (with_reducible refine wpList_box rfl ?_)
      intro b w0 hB1 hB2 hB3 hB4
      go_wp2_with (with_reducible refine wpList_box rfl ?_)
      intro c w1 hC1 hC2 hC3 hC4
      go_wp2_with (with_reducible refine wpList_new newB ?_)
      intro R w2 hR1 hR2 hR3 hR4
      have hX2 := (hB3.later hC4).later hR4
      have hY2 := hC3.later hR4
      have hbc : b < c := by have := hC1; omega
      have hcR : c < R := by have := hR1; omega
      have HB2 := Lib.hid ((hB4.trans (hC4.mono hB4.size)).trans (hR4.mono (Nat.le_trans hB4.size hC4.size)))
      have hwb : w.heap.size ≤ b := hB1
      have hwR : w.heap.size ≤ R := by omega
      clear hB3 hB4 hC3 hC4 hR4
      go_wp2_with ((with_reducible refine wpList_getB hX2 ?_ ?_); rfl)
      refine (ValidBrine_any x w2 hr hx).mono ?_
      rw [HOK.out]
      rintro e w3 ⟨rfl, hb3⟩
      have hX3 := hX2.later hb3
      have hY3 := hY2.later hb3
      have hR3' := hR3.later hb3
      have HB3 := Lib.hid (HB2.out.trans (hb3.mono HB2.out.size))
      clear hb3 hX2 hY2 hR3
      go_wp2_with ((with_reducible refine wpList_getBgd ?_ hY3 ?_ ?_); (exact rfl); rfl)
      refine (ValidBrine_any y w3 hr' hx').mono ?_
      rw [HOY.out]
      rintro e w4 ⟨rfl, hb4⟩
      have hX4 := hX3.later hb4
      have hY4 := hY3.later hb4
      have hR4 := hR3'.later hb4
      have HB4 := Lib.hid (HB3.out.trans (hb4.mono HB3.out.size))
      clear hb4 hX3 hY3 hR3'
      go_wp2_with (first | (with_reducible refine wpList_zero (zeroB _) ?_) | ((with_reducible refine wpList_putB (x := B0) hR4 ?_ ?_ ?_); rfl; rfl))
      intro w20 s20 b20 k20
      go_wp2_with fail
      refine ret_cell2 rfl rfl (loadB b20) rfl ⟨B0, by rw [HW.out]; rfl, by rw [HW.out], ?_⟩
      exact below_grown HB4.out k20 HB4.out.size hwR
    · clear hok hoy hsh
      go_enter Try.func60, Try.ntmps60
      go_wp2_with (with_reducible refine wpList_box rfl ?_)
      intro b w0 hB1 hB2 hB3 hB4
      go_wp2_with (with_reducible refine wpList_box rfl ?_)
      intro c w1 hC1 hC2 hC3 hC4
      go_wp2_with (with_reducible refine wpList_new newB ?_)
      intro R w2 hR1 hR2 hR3 hR4
      have hX2 := (hB3.later hC4).later hR4
      have hY2 := hC3.later hR4
      have hbc : b < c := by have := hC1; omega
      have hcR : c < R := by have := hR1; omega
      have HB2 := Lib.hid ((hB4.trans (hC4.mono hB4.size)).trans (hR4.mono (Nat.le_trans hB4.size hC4.size)))
      have hwb : w.heap.size ≤ b := hB1
      have hwR : w.heap.size ≤ R := by omega
      clear hB3 hB4 hC3 hC4 hR4
      go_wp2_with ((with_reducible refine wpList_getB hX2 ?_ ?_); rfl)
      refine (ValidBrine_any x w2 hr hx).mono ?_
      rw [HOK.out]
      rintro e w3 ⟨rfl, hb3⟩
      have hX3 := hX2.later hb3
      have hY3 := hY2.later hb3
      have hR3' := hR3.later hb3
      have HB3 := Lib.hid (HB2.out.trans (hb3.mono HB2.out.size))
      clear hb3 hX2 hY2 hR3
      go_wp2_with ((with_reducible refine wpList_getBgd ?_ hY3 ?_ ?_); (exact rfl); rfl)
      refine (ValidBrine_any y w3 hr' hx').mono ?_
      rw [HOY.out]
      rintro e w4 ⟨rfl, hb4⟩
      have hX4 := hX3.later hb4
      have hY4 := hY3.later hb4
      have hR4 := hR3'.later hb4
      have HB4 := Lib.hid (HB3.out.trans (hb4.mono HB3.out.size))
      clear hb4 hX3 hY3 hR3'
      go_wp2_with (first | (with_reducible refine wpList_zero (zeroB _) ?_) | ((with_reducible refine wpList_putB (x := B0) hR4 ?_ ?_ ?_); rfl; rfl))
      intro w20 s20 b20 k20
      go_wp2_with fail
      refine ret_cell2 rfl rfl (loadB b20) rfl ⟨B0, by rw [HW.out]; rfl, by rw [HW.out], ?_⟩
      exact below_grown HB4.out k20 HB4.out.size hwR
    · clear hok hoy hsh
      go_enter Try.func60, Try.ntmps60
      go_wp2_with (with_reducible refine wpList_box rfl ?_)
      intro b w0 hB1 hB2 hB3 hB4
      go_wp2_with (with_reducible refine wpList_box rfl ?_)
      intro c w1 hC1 hC2 hC3 hC4
      go_wp2_with (with_reducible refine wpList_new newB ?_)
      intro R w2 hR1 hR2 hR3 hR4
      have hX2 := (hB3.later hC4).later hR4
      have hY2 := hC3.later hR4
      have hbc : b < c := by have := hC1; omega
      have hcR : c < R := by have := hR1; omega
      have HB2 := Lib.hid ((hB4.trans (hC4.mono hB4.size)).trans (hR4.mono (Nat.le_trans hB4.size hC4.size)))
      have hwb : w.heap.size ≤ b := hB1
      have hwR : w.heap.size ≤ R := by omega
      clear hB3 hB4 hC3 hC4 hR4
      go_wp2_with ((with_reducible refine wpList_getB hX2 ?_ ?_); rfl)
      refine (ValidBrine_any x w2 hr hx).mono ?_
      rw [HOK.out]
      rintro e w3 ⟨rfl, hb3⟩
      have hX3 := hX2.later hb3
      have hY3 := hY2.later hb3
      have hR3' := hR3.later hb3
      have HB3 := Lib.hid (HB2.out.trans (hb3.mono HB2.out.size))
      clear hb3 hX2 hY2 hR3
      go_wp2_with ((with_reducible refine wpList_getBgd ?_ hY3 ?_ ?_); (exact rfl); rfl)
      refine (ValidBrine_any y w3 hr' hx').mono ?_
      rw [HOY.out]
      rintro e w4 ⟨rfl, hb4⟩
      have hX4 := hX3.later hb4
      have hY4 := hY3.later hb4
      have hR4 := hR3'.later hb4
      have HB4 := Lib.hid (HB3.out.trans (hb4.mono HB3.out.size))
      clear hb4 hX3 hY3 hR3'
      go_wp2_with (first | (with_reducible refine wpList_zero (zeroB _) ?_) | ((with_reducible refine wpList_putB (x := B0) hR4 ?_ ?_ ?_); rfl; rfl))
      intro w20 s20 b20 k20
      go_wp2_with fail
      refine ret_cell2 rfl rfl (loadB b20) rfl ⟨B0, by rw [HW.out]; rfl, by rw [HW.out], ?_⟩
      exact below_grown HB4.out k20 HB4.out.size hwR
  by_cases hw : x.gr.wide = y.gr.wide
  rotate_left
  · have HW : Hid (mixR x.n y.n (fb t) = (B0.n, 4)) := by show _ = _; unfold mixR; rw [hok, hoy, hsh, if_neg (show ¬ x.n.g.wide = y.n.g.wide from hw)]; rfl
    have HOK := Lib.hid hok
    have HOY := Lib.hid hoy
    obtain ⟨s0, s3, s5⟩ := mix_yes hsh
    clear hok hoy hsh
    have s1 : (fgt (fb t) (fb 0) || feq (fb t) (fb 0)) = true := by rcases s0 with h | ⟨h1, h2⟩ <;> simp_all
    have s4 : (flt (fb t) (fb 1065353216) || feq (fb t) (fb 1065353216)) = true := by rcases s5 with h | ⟨h1, h2⟩ <;> simp_all
    clear s0 s5
    go_enter Try.func60, Try.ntmps60
    go_wp2_with (with_reducible refine wpList_box rfl ?_)
    intro b w0 hB1 hB2 hB3 hB4
    go_wp2_with (with_reducible refine wpList_box rfl ?_)
    intro c w1 hC1 hC2 hC3 hC4
    go_wp2_with (with_reducible refine wpList_new newB ?_)
    intro R w2 hR1 hR2 hR3 hR4
    have hX2 := (hB3.later hC4).later hR4
    have hY2 := hC3.later hR4
    have hbc : b < c := by have := hC1; omega
    have hcR : c < R := by have := hR1; omega
    have HB2 := Lib.hid ((hB4.trans (hC4.mono hB4.size)).trans (hR4.mono (Nat.le_trans hB4.size hC4.size)))
    have hwb : w.heap.size ≤ b := hB1
    have hwR : w.heap.size ≤ R := by omega
    clear hB3 hB4 hC3 hC4 hR4
    go_wp2_with ((with_reducible refine wpList_getB hX2 ?_ ?_); rfl)
    refine (ValidBrine_any x w2 hr hx).mono ?_
    rw [HOK.out]
    rintro e w3 ⟨rfl, hb3⟩
    have hX3 := hX2.later hb3
    have hY3 := hY2.later hb3
    have hR3' := hR3.later hb3
    have HB3 := Lib.hid (HB2.out.trans (hb3.mono HB2.out.size))
    clear hb3 hX2 hY2 hR3
    go_wp2_with ((with_reducible refine wpList_getBgd ?_ hY3 ?_ ?_); (exact rfl); rfl)
    refine (ValidBrine_any y w3 hr' hx').mono ?_
    rw [HOY.out]
    rintro e w4 ⟨rfl, hb4⟩
    have hX4 := hX3.later hb4
    have hY4 := hY3.later hb4
    have hR4 := hR3'.later hb4
    have HB4 := Lib.hid (HB3.out.trans (hb4.mono HB3.out.size))
    clear hb4 hX3 hY3 hR3'
    have qx := rng_cell (BAt.of_blk hX4)
    have qy := rng_cell (BAt.of_blk hY4)
    obtain ⟨qx0, qx1⟩ := qx
    obtain ⟨qy0, qy1⟩ := qy
    go_wp2_with (first | (with_reducible refine wpList_zero (zeroB _) ?_) | ((with_reducible refine wpList_putB (x := B0) hR4 ?_ ?_ ?_); rfl; rfl))
    intro w20 s20 b20 k20
    go_wp2_with fail
    refine ret_cell2 rfl rfl (loadB b20) rfl ⟨B0, by rw [HW.out]; rfl, by rw [HW.out], ?_⟩
    exact below_grown HB4.out k20 HB4.out.size hwR
  by_cases hh : x.gr.high = y.gr.high
  rotate_left
  · have HW : Hid (mixR x.n y.n (fb t) = (B0.n, 4)) := by show _ = _; unfold mixR; rw [hok, hoy, hsh, if_pos (show x.n.g.wide = y.n.g.wide from hw), if_neg (show ¬ x.n.g.high = y.n.g.high from hh)]; rfl
    have HWE := Lib.hid hw
    clear hw
    have HOK := Lib.hid hok
    have HOY := Lib.hid hoy
    obtain ⟨s0, s3, s5⟩ := mix_yes hsh
    clear hok hoy hsh
    have s1 : (fgt (fb t) (fb 0) || feq (fb t) (fb 0)) = true := by rcases s0 with h | ⟨h1, h2⟩ <;> simp_all
    have s4 : (flt (fb t) (fb 1065353216) || feq (fb t) (fb 1065353216)) = true := by rcases s5 with h | ⟨h1, h2⟩ <;> simp_all
    clear s0 s5
    go_enter Try.func60, Try.ntmps60
    go_wp2_with (with_reducible refine wpList_box rfl ?_)
    intro b w0 hB1 hB2 hB3 hB4
    go_wp2_with (with_reducible refine wpList_box rfl ?_)
    intro c w1 hC1 hC2 hC3 hC4
    go_wp2_with (with_reducible refine wpList_new newB ?_)
    intro R w2 hR1 hR2 hR3 hR4
    have hX2 := (hB3.later hC4).later hR4
    have hY2 := hC3.later hR4
    have hbc : b < c := by have := hC1; omega
    have hcR : c < R := by have := hR1; omega
    have HB2 := Lib.hid ((hB4.trans (hC4.mono hB4.size)).trans (hR4.mono (Nat.le_trans hB4.size hC4.size)))
    have hwb : w.heap.size ≤ b := hB1
    have hwR : w.heap.size ≤ R := by omega
    clear hB3 hB4 hC3 hC4 hR4
    go_wp2_with ((with_reducible refine wpList_getB hX2 ?_ ?_); rfl)
    refine (ValidBrine_any x w2 hr hx).mono ?_
    rw [HOK.out]
    rintro e w3 ⟨rfl, hb3⟩
    have hX3 := hX2.later hb3
    have hY3 := hY2.later hb3
    have hR3' := hR3.later hb3
    have HB3 := Lib.hid (HB2.out.trans (hb3.mono HB2.out.size))
    clear hb3 hX2 hY2 hR3
    go_wp2_with ((with_reducible refine wpList_getBgd ?_ hY3 ?_ ?_); (exact rfl); rfl)
    refine (ValidBrine_any y w3 hr' hx').mono ?_
    rw [HOY.out]
    rintro e w4 ⟨rfl, hb4⟩
    have hX4 := hX3.later hb4
    have hY4 := hY3.later hb4
    have hR4 := hR3'.later hb4
    have HB4 := Lib.hid (HB3.out.trans (hb4.mono HB3.out.size))
    clear hb4 hX3 hY3 hR3'
    have qx := rng_cell (BAt.of_blk hX4)
    have qy := rng_cell (BAt.of_blk hY4)
    obtain ⟨qx0, qx1⟩ := qx
    obtain ⟨qy0, qy1⟩ := qy
    rw [← HWE.out] at qy0
    go_wp2_with (first | (with_reducible refine wpList_zero (zeroB _) ?_) | ((with_reducible refine wpList_putB (x := B0) hR4 ?_ ?_ ?_); rfl; rfl))
    intro w20 s20 b20 k20
    go_wp2_with fail
    refine ret_cell2 rfl rfl (loadB b20) rfl ⟨B0, by rw [HW.out]; rfl, by rw [HW.out], ?_⟩
    exact below_grown HB4.out k20 HB4.out.size hwR
  have HWE := Lib.hid hw
  have HHE := Lib.hid hh
  have HW0 : Hid (mixR x.n y.n (fb t) = (if okB (mixN x.n y.n (fb t)) then (mixN x.n y.n (fb t), 0) else (B0.n, 4))) := by
    show _ = _; unfold mixR; rw [hok, hoy, hsh, if_pos (show x.n.g.wide = y.n.g.wide from HWE.out), if_pos (show x.n.g.high = y.n.g.high from HHE.out)]; rfl
  clear hw hh
  have HOK := Lib.hid hok
  have HOY := Lib.hid hoy
  obtain ⟨s0, s3, s5⟩ := mix_yes hsh
  clear hok hoy hsh
  have s1 : (fgt (fb t) (fb 0) || feq (fb t) (fb 0)) = true := by rcases s0 with h | ⟨h1, h2⟩ <;> simp_all
  have s4 : (flt (fb t) (fb 1065353216) || feq (fb t) (fb 1065353216)) = true := by rcases s5 with h | ⟨h1, h2⟩ <;> simp_all
  clear s0 s5
  go_enter Try.func60, Try.ntmps60
  go_wp2_with (with_reducible refine wpList_box rfl ?_)
  intro b w0 hB1 hB2 hB3 hB4
  go_wp2_with (with_reducible refine wpList_box rfl ?_)
  intro c w1 hC1 hC2 hC3 hC4
  go_wp2_with (with_reducible refine wpList_new newB ?_)
  intro R w2 hR1 hR2 hR3 hR4
  have hX2 := (hB3.later hC4).later hR4
  have hY2 := hC3.later hR4
  have hbc : b < c := by have := hC1; omega
  have hcR : c < R := by have := hR1; omega
  have HB2 := Lib.hid ((hB4.trans (hC4.mono hB4.size)).trans (hR4.mono (Nat.le_trans hB4.size hC4.size)))
  have hwb : w.heap.size ≤ b := hB1
  have hwR : w.heap.size ≤ R := by omega
  clear hB3 hB4 hC3 hC4 hR4
  go_wp2_with ((with_reducible refine wpList_getB hX2 ?_ ?_); rfl)
  refine (ValidBrine_any x w2 hr hx).mono ?_
  rw [HOK.out]
  rintro e w3 ⟨rfl, hb3⟩
  have hX3 := hX2.later hb3
  have hY3 := hY2.later hb3
  have hR3' := hR3.later hb3
  have HB3 := Lib.hid (HB2.out.trans (hb3.mono HB2.out.size))
  clear hb3 hX2 hY2 hR3
  go_wp2_with ((with_reducible refine wpList_getBgd ?_ hY3 ?_ ?_); (exact rfl); rfl)
  refine (ValidBrine_any y w3 hr' hx').mono ?_
  rw [HOY.out]
  rintro e w4 ⟨rfl, hb4⟩
  have hX4 := hX3.later hb4
  have hY4 := hY3.later hb4
  have hR4 := hR3'.later hb4
  have HB4 := Lib.hid (HB3.out.trans (hb4.mono HB3.out.size))
  clear hb4 hX3 hY3 hR3'
  have qx := rng_cell (BAt.of_blk hX4)
  have qy := rng_cell (BAt.of_blk hY4)
  obtain ⟨qx0, qx1⟩ := qx
  obtain ⟨qy0, qy1⟩ := qy
  rw [← HWE.out] at qy0
  rw [← HHE.out] at qy1
  go_wp2_with fail
  refine (cells_any b 0 x.gr w4 hr (BAt.of_blk hX4).g).mono ?_
  rintro e w5 ⟨v, rfl, hown, hb5⟩
  obtain ⟨aL, cap, rfl, hL⟩ := list_form hown
  have HL := Lib.hid hL
  have HX5 := Lib.hid (hX4.later hb5)
  have HY5 := Lib.hid (BAt.of_blk (hY4.later hb5))
  have HR5 := Lib.hid (hR4.later hb5)
  have HB5 := Lib.hid (HB4.out.trans (hb5.mono HB4.out.size))
  have hlen := cellsTo_length x.gr.wide x.gr.high 64
  have hbl : b < w4.heap.size := hX4.lt
  have hRl : R < w5.heap.size := HR5.out.lt
  clear hL hown hb5 hX4 hY4 hR4 qx0 qx1 qy0 qy1
  go_wp2_with fail
  go_loopw [50] (fun vj wr => UpdRel x (mixS x.n y.n (fb t)) (fun j => (cellsTo x.gr.wide x.gr.high 64).take j) (cellsTo x.gr.wide x.gr.high 64).length w5 b vj wr) (fun vj _ => (cellsTo x.gr.wide x.gr.high 64).length - (intOf vj).toNat)
  case atStart => exact ⟨0, x.s, by omega, rfl, rfl, HX5.out, grown_refl _ _⟩
  case round =>
    obtain ⟨j, s', hj, rfl, hfs, hO, hgr⟩ := hrel
    have HGR := Lib.hid hgr
    have HFS := Lib.hid hfs
    have HO := Lib.hid hO
    have HY := Lib.hid (HY5.out.grown hgr (by omega))
    clear hgr hfs hO
    by_cases hlt : j < (cellsTo x.gr.wide x.gr.high 64).length
    · obtain ⟨d, hd⟩ : ∃ d, (cellsTo x.gr.wide x.gr.high 64)[j]? = some d := ⟨_, List.getElem?_eq_getElem hlt⟩
      have hc64 : d < 64 := cellsTo_lt (List.mem_of_getElem? hd)
      have hj64 : j < 64 := by omega
      obtain ⟨gq, rfl, hq1, hq2, hq3⟩ := HL.out j d hd
      have hcell := cell_grown hq3 HGR.out (by omega)
      have HC := Lib.hid hd
      have HS : Hid (fb (s' d) = fm x.s d) := by
        show _ = _
        rw [← fm_of hc64, HFS.out]; exact updL_same (cells_nodup _ _ _) hd
      have j1 : (j : Int) < ((cellsTo x.gr.wide x.gr.high 64).length : Int) := by omega
      have c1 : (d : Int) < 64 := by omega
      clear hq3 hd
      go_wp2_with fail
      have q1 := fun zz => ext_cell wr zz ((BAt.of_blk HO.out).s hc64)
      have q2 := fun zz => ext_cell wr zz (HY.out.s hc64)
      refine wp_soft_tail 18 (SF (some 0)) (by kernel_rfl) (by kernel_rfl) ?_
      simp only [List.take_succ_cons, List.take_zero, List.drop_succ_cons, List.drop_zero]
      repeat (first | (refine soft_arith (fun _ n h => h.drewN n) _ _ rfl rfl rfl ?_; intro r8 hr8) | (refine soft_step (fun K hK => ?_); go_simp; (try go_bits); refine hK _ ?_; clear hK K))
      rename_i rs hrs rq hrq
      refine soft_nil ?_
      rintro w5 hw5
      have HG5 := Lib.hid (grown_trans HGR.out (grown_below hw5.below))
      have hO5 := HO.out.later hw5.below
      have HV : Hid (fb r8 = mixS x.n y.n (fb t) d) := by
        show fb r8 = fadd (fm x.s d) (fmul (fb t) (fsub (fm y.s d) (fm x.s d)))
        rw [hr8.out, fop, hrq.out, fop, hrs.out, fop, HS.out, fm_of (f := y.s) hc64]
      clear hw5 q1 q2 hr8 hrq hrs
      go_wp2_with ((with_reducible refine wpList_gateS ?_); refine wpList_setS hO5 hc64 rfl rfl ?_)
      intro w7 s7 b7 k7
      have H7 := Lib.hid b7
      have HG7 := Lib.hid (grown_trans HG5.out k7)
      clear b7 k7 hO5
      go_wp2_with fail
      go_roundw
      case rel =>
        refine ⟨j + 1, upd s' d r8, by omega, by go_num, ?_, H7.out, HG7.out⟩
        dsimp only
        rw [take_more HC.out, updL_snoc, fm_upd hc64, HFS.out, HV.out]
      case measure => simp [intOf]; omega
    · have hjn : j = (cellsTo x.gr.wide x.gr.high 64).length := by omega
      have j1 : ¬ (j : Int) < ((cellsTo x.gr.wide x.gr.high 64).length : Int) := by omega
      have HN : Hid (({ x with s := s' } : Br).n = mixN x.n y.n (fb t)) := by
        show _ = _
        have := HFS.out
        dsimp only at this
        rw [List.take_of_length_le (Nat.le_of_eq hjn.symm)] at this
        exact n_of this
      clear hjn
      have HBw := Lib.hid (below_grown HB5.out HGR.out HB5.out.size hwb)
      have hRw := HR5.out.grown HGR.out (by omega)
      cases hok : okB (mixN x.n y.n (fb t))
      · have HOKM := Lib.hid hok
        have HW : Hid (mixR x.n y.n (fb t) = (B0.n, 4)) := by show _ = _; rw [HW0.out, hok]; rfl
        clear hok
        go_wp2_with ((with_reducible refine wpList_getB HO.out ?_ ?_); rfl)
        refine (ValidBrine_any { x with s := s' } wr hr hx).mono ?_
        rw [HN.out, HOKM.out]
        rintro e w8 ⟨rfl, hb8⟩
        have hR8 := hRw.later hb8
        have hO8 := HO.out.later hb8
        have HB8 := Lib.hid (HBw.out.trans (hb8.mono HBw.out.size))
        clear hb8
        go_wp2_with (first | (with_reducible refine wpList_zero (zeroB _) ?_) | ((with_reducible refine wpList_putB (x := B0) hR8 ?_ ?_ ?_); rfl; rfl))
        intro w20 s20 b20 k20
        go_wp2_with fail
        refine ret_cell2 rfl rfl (loadB b20) rfl ⟨B0, by rw [HW.out]; rfl, by rw [HW.out], ?_⟩
        exact below_grown HB8.out k20 HB8.out.size hwR
      · have HOKM := Lib.hid hok
        have HW : Hid (mixR x.n y.n (fb t) = (mixN x.n y.n (fb t), 0)) := by show _ = _; rw [HW0.out, hok]; rfl
        clear hok
        go_wp2_with ((with_reducible refine wpList_getB HO.out ?_ ?_); rfl)
        refine (ValidBrine_any { x with s := s' } wr hr hx).mono ?_
        rw [HN.out, HOKM.out]
        rintro e w8 ⟨rfl, hb8⟩
        have hR8 := hRw.later hb8
        have hO8 := HO.out.later hb8
        have HB8 := Lib.hid (HBw.out.trans (hb8.mono HBw.out.size))
        clear hb8
        go_wp2_with (first | ((with_reducible refine wpList_getB hO8 ?_ ?_); rfl) | ((with_reducible refine wpList_putB (x := { x with s := s' }) hR8 ?_ ?_ ?_); rfl; rfl))
        intro w20 s20 b20 k20
        go_wp2_with fail
        refine ret_cell2 rfl rfl (loadB b20) rfl ⟨{ x with s := s' }, by rw [HW.out]; rfl, by rw [HW.out]; exact HN.out, ?_⟩
        exact below_grown HB8.out k20 HB8.out.size hwR

set_option maxRecDepth 100000 in
set_option maxHeartbeats 3200000 in
theorem specMixBrines_any (x y : Br) (t : Nat) (w : World) (hr : x.gr.Rng) (hx : x.gr.Fx) (hr' : y.gr.Rng) (hx' : y.gr.Fx) :
    Calls Try.prog 61 #[.agg (arrB x), .agg (arrB y), .float .f32 t] w (RetBC' (mixR x.n y.n (fb t)) w) := by
  have hgt' := order_gt
  have hlt' := order_lt
  have heq' := order_eq
  cases hok : okB x.n
  · have HW : Hid (mixR x.n y.n (fb t) = (B0.n, 1)) := by show _ = _; unfold mixR; rw [hok]; rfl
    have HOK := Lib.hid hok
    clear hok
    go_enter Try.func61, Try.ntmps61
    go_wp2_with (with_reducible refine wpList_box rfl ?_)
    intro b w0 hB1 hB2 hB3 hB4
    go_wp2_with (with_reducible refine wpList_box rfl ?_)
    intro c w1 hC1 hC2 hC3 hC4
    go_wp2_with (with_reducible refine wpList_new newB ?_)
    intro R w2 hR1 hR2 hR3 hR4
    have hX2 := (hB3.later hC4).later hR4
    have hY2 := hC3.later hR4
    have hbc : b < c := by have := hC1; omega
    have hcR : c < R := by have := hR1; omega
    have HB2 := Lib.hid ((hB4.trans (hC4.mono hB4.size)).trans (hR4.mono (Nat.le_trans hB4.size hC4.size)))
    have hwb : w.heap.size ≤ b := hB1
    have hwR : w.heap.size ≤ R := by omega
    clear hB3 hB4 hC3 hC4 hR4
    go_wp2_with fail
    refine (l05Ok_any b x w2 hr hx (BAt.of_blk hX2)).mono ?_
    rw [HOK.out]
    rintro e w3 ⟨rfl, hb3⟩
    have hX3 := hX2.later hb3
    have hY3 := hY2.later hb3
    have hR3' := hR3.later hb3
    have HB3 := Lib.hid (HB2.out.trans (hb3.mono HB2.out.size))
    clear hb3 hX2 hY2 hR3
    go_wp2_with (first | (with_reducible refine wpList_zero (zeroB _) ?_) | ((with_reducible refine wpList_putB (x := B0) hR3' ?_ ?_ ?_); rfl; rfl))
    intro w20 s20 b20 k20
    go_wp2_with fail
    refine ret_cell2 rfl rfl (loadB b20) rfl ⟨B0, by rw [HW.out]; rfl, by rw [HW.out], ?_⟩
    exact below_grown HB3.out k20 HB3.out.size hwR
  cases hoy : okB y.n
  · have HW : Hid (mixR x.n y.n (fb t) = (B0.n, 1)) := by show _ = _; unfold mixR; rw [hok, hoy]; rfl
    have HOK := Lib.hid hok
    have HOY := Lib.hid hoy
    clear hok hoy
    go_enter Try.func61, Try.ntmps61
    go_wp2_with (with_reducible refine wpList_box rfl ?_)
    intro b w0 hB1 hB2 hB3 hB4
    go_wp2_with (with_reducible refine wpList_box rfl ?_)
    intro c w1 hC1 hC2 hC3 hC4
    go_wp2_with (with_reducible refine wpList_new newB ?_)
    intro R w2 hR1 hR2 hR3 hR4
    have hX2 := (hB3.later hC4).later hR4
    have hY2 := hC3.later hR4
    have hbc : b < c := by have := hC1; omega
    have hcR : c < R := by have := hR1; omega
    have HB2 := Lib.hid ((hB4.trans (hC4.mono hB4.size)).trans (hR4.mono (Nat.le_trans hB4.size hC4.size)))
    have hwb : w.heap.size ≤ b := hB1
    have hwR : w.heap.size ≤ R := by omega
    clear hB3 hB4 hC3 hC4 hR4
    go_wp2_with fail
    refine (l05Ok_any b x w2 hr hx (BAt.of_blk hX2)).mono ?_
    rw [HOK.out]
    rintro e w3 ⟨rfl, hb3⟩
    have hX3 := hX2.later hb3
    have hY3 := hY2.later hb3
    have hR3' := hR3.later hb3
    have HB3 := Lib.hid (HB2.out.trans (hb3.mono HB2.out.size))
    clear hb3 hX2 hY2 hR3
    go_wp2_with fail
    refine (l05Ok_any c y w3 hr' hx' (BAt.of_blk hY3)).mono ?_
    rw [HOY.out]
    rintro e w4 ⟨rfl, hb4⟩
    have hX4 := hX3.later hb4
    have hY4 := hY3.later hb4
    have hR4 := hR3'.later hb4
    have HB4 := Lib.hid (HB3.out.trans (hb4.mono HB3.out.size))
    clear hb4 hX3 hY3 hR3'
    go_wp2_with (first | (with_reducible refine wpList_zero (zeroB _) ?_) | ((with_reducible refine wpList_putB (x := B0) hR4 ?_ ?_ ?_); rfl; rfl))
    intro w20 s20 b20 k20
    go_wp2_with fail
    refine ret_cell2 rfl rfl (loadB b20) rfl ⟨B0, by rw [HW.out]; rfl, by rw [HW.out], ?_⟩
    exact below_grown HB4.out k20 HB4.out.size hwR
  cases hsh : mixOk (fb t)
  · have HW : Hid (mixR x.n y.n (fb t) = (B0.n, 2)) := by show _ = _; unfold mixR; rw [hok, hoy, hsh]; rfl
    have HOK := Lib.hid hok
    have HOY := Lib.hid hoy
    rcases mix_no hsh with ⟨s1, s2⟩ | ⟨s1, s2, s3, s4⟩ | ⟨s1, s2, s3, s4, s5⟩
    · clear hok hoy hsh
      go_enter Try.func61, Try.ntmps61
      go_wp2_with (with_reducible refine wpList_box rfl ?_)
      intro b w0 hB1 hB2 hB3 hB4
      go_wp2_with (with_reducible refine wpList_box rfl ?_)
      intro c w1 hC1 hC2 hC3 hC4
      go_wp2_with (with_reducible refine wpList_new newB ?_)
      intro R w2 hR1 hR2 hR3 hR4
      have hX2 := (hB3.later hC4).later hR4
      have hY2 := hC3.later hR4
      have hbc : b < c := by have := hC1; omega
      have hcR : c < R := by have := hR1; omega
      have HB2 := Lib.hid ((hB4.trans (hC4.mono hB4.size)).trans (hR4.mono (Nat.le_trans hB4.size hC4.size)))
      have hwb : w.heap.size ≤ b := hB1
      have hwR : w.heap.size ≤ R := by omega
      clear hB3 hB4 hC3 hC4 hR4
      go_wp2_with fail
      refine (l05Ok_any b x w2 hr hx (BAt.of_blk hX2)).mono ?_
      rw [HOK.out]
      rintro e w3 ⟨rfl, hb3⟩
      have hX3 := hX2.later hb3
      have hY3 := hY2.later hb3
      have hR3' := hR3.later hb3
      have HB3 := Lib.hid (HB2.out.trans (hb3.mono HB2.out.size))
      clear hb3 hX2 hY2 hR3
      go_wp2_with fail
      refine (l05Ok_any c y w3 hr' hx' (BAt.of_blk hY3)).mono ?_
      rw [HOY.out]
      rintro e w4 ⟨rfl, hb4⟩
      have hX4 := hX3.later hb4
      have hY4 := hY3.later hb4
      have hR4 := hR3'.later hb4
      have HB4 := Lib.hid (HB3.out.trans (hb4.mono HB3.out.size))
      clear hb4 hX3 hY3 hR3'
      go_wp2_with (first | (with_reducible refine wpList_zero (zeroB _) ?_) | ((with_reducible refine wpList_putB (x := B0) hR4 ?_ ?_ ?_); rfl; rfl))
      intro w20 s20 b20 k20
      go_wp2_with fail
      refine ret_cell2 rfl rfl (loadB b20) rfl ⟨B0, by rw [HW.out]; rfl, by rw [HW.out], ?_⟩
      exact below_grown HB4.out k20 HB4.out.size hwR
    · clear hok hoy hsh
      go_enter Try.func61, Try.ntmps61
      go_wp2_with (with_reducible refine wpList_box rfl ?_)
      intro b w0 hB1 hB2 hB3 hB4
      go_wp2_with (with_reducible refine wpList_box rfl ?_)
      intro c w1 hC1 hC2 hC3 hC4
      go_wp2_with (with_reducible refine wpList_new newB ?_)
      intro R w2 hR1 hR2 hR3 hR4
      have hX2 := (hB3.later hC4).later hR4
      have hY2 := hC3.later hR4
      have hbc : b < c := by have := hC1; omega
      have hcR : c < R := by have := hR1; omega
      have HB2 := Lib.hid ((hB4.trans (hC4.mono hB4.size)).trans (hR4.mono (Nat.le_trans hB4.size hC4.size)))
      have hwb : w.heap.size ≤ b := hB1
      have hwR : w.heap.size ≤ R := by omega
      clear hB3 hB4 hC3 hC4 hR4
      go_wp2_with fail
      refine (l05Ok_any b x w2 hr hx (BAt.of_blk hX2)).mono ?_
      rw [HOK.out]
      rintro e w3 ⟨rfl, hb3⟩
      have hX3 := hX2.later hb3
      have hY3 := hY2.later hb3
      have hR3' := hR3.later hb3
      have HB3 := Lib.hid (HB2.out.trans (hb3.mono HB2.out.size))
      clear hb3 hX2 hY2 hR3
      go_wp2_with fail
      refine (l05Ok_any c y w3 hr' hx' (BAt.of_blk hY3)).mono ?_
      rw [HOY.out]
      rintro e w4 ⟨rfl, hb4⟩
      have hX4 := hX3.later hb4
      have hY4 := hY3.later hb4
      have hR4 := hR3'.later hb4
      have HB4 := Lib.hid (HB3.out.trans (hb4.mono HB3.out.size))
      clear hb4 hX3 hY3 hR3'
      go_wp2_with (first | (with_reducible refine wpList_zero (zeroB _) ?_) | ((with_reducible refine wpList_putB (x := B0) hR4 ?_ ?_ ?_); rfl; rfl))
      intro w20 s20 b20 k20
      go_wp2_with fail
      refine ret_cell2 rfl rfl (loadB b20) rfl ⟨B0, by rw [HW.out]; rfl, by rw [HW.out], ?_⟩
      exact below_grown HB4.out k20 HB4.out.size hwR
    · clear hok hoy hsh
      go_enter Try.func61, Try.ntmps61
      go_wp2_with (with_reducible refine wpList_box rfl ?_)
      intro b w0 hB1 hB2 hB3 hB4
      go_wp2_with (with_reducible refine wpList_box rfl ?_)
      intro c w1 hC1 hC2 hC3 hC4
      go_wp2_with (with_reducible refine wpList_new newB ?_)
      intro R w2 hR1 hR2 hR3 hR4
      have hX2 := (hB3.later hC4).later hR4
      have hY2 := hC3.later hR4
      have hbc : b < c := by have := hC1; omega
      have hcR : c < R := by have := hR1; omega
      have HB2 := Lib.hid ((hB4.trans (hC4.mono hB4.size)).trans (hR4.mono (Nat.le_trans hB4.size hC4.size)))
      have hwb : w.heap.size ≤ b := hB1
      have hwR : w.heap.size ≤ R := by omega
      clear hB3 hB4 hC3 hC4 hR4
      go_wp2_with fail
      refine (l05Ok_any b x w2 hr hx (BAt.of_blk hX2)).mono ?_
      rw [HOK.out]
      rintro e w3 ⟨rfl, hb3⟩
      have hX3 := hX2.later hb3
      have hY3 := hY2.later hb3
      have hR3' := hR3.later hb3
      have HB3 := Lib.hid (HB2.out.trans (hb3.mono HB2.out.size))
      clear hb3 hX2 hY2 hR3
      go_wp2_with fail
      refine (l05Ok_any c y w3 hr' hx' (BAt.of_blk hY3)).mono ?_
      rw [HOY.out]
      rintro e w4 ⟨rfl, hb4⟩
      have hX4 := hX3.later hb4
      have hY4 := hY3.later hb4
      have hR4 := hR3'.later hb4
      have HB4 := Lib.hid (HB3.out.trans (hb4.mono HB3.out.size))
      clear hb4 hX3 hY3 hR3'
      go_wp2_with (first | (with_reducible refine wpList_zero (zeroB _) ?_) | ((with_reducible refine wpList_putB (x := B0) hR4 ?_ ?_ ?_); rfl; rfl))
      intro w20 s20 b20 k20
      go_wp2_with fail
      refine ret_cell2 rfl rfl (loadB b20) rfl ⟨B0, by rw [HW.out]; rfl, by rw [HW.out], ?_⟩
      exact below_grown HB4.out k20 HB4.out.size hwR
  by_cases hw : x.gr.wide = y.gr.wide
  rotate_left
  · have HW : Hid (mixR x.n y.n (fb t) = (B0.n, 4)) := by show _ = _; unfold mixR; rw [hok, hoy, hsh, if_neg (show ¬ x.n.g.wide = y.n.g.wide from hw)]; rfl
    have HOK := Lib.hid hok
    have HOY := Lib.hid hoy
    obtain ⟨s0, s3, s5⟩ := mix_yes hsh
    clear hok hoy hsh
    have s1 : (fgt (fb t) (fb 0) || feq (fb t) (fb 0)) = true := by rcases s0 with h | ⟨h1, h2⟩ <;> simp_all
    have s4 : (flt (fb t) (fb 1065353216) || feq (fb t) (fb 1065353216)) = true := by rcases s5 with h | ⟨h1, h2⟩ <;> simp_all
    clear s0 s5
    go_enter Try.func61, Try.ntmps61
    go_wp2_with (with_reducible refine wpList_box rfl ?_)
    intro b w0 hB1 hB2 hB3 hB4
    go_wp2_with (with_reducible refine wpList_box rfl ?_)
    intro c w1 hC1 hC2 hC3 hC4
    go_wp2_with (with_reducible refine wpList_new newB ?_)
    intro R w2 hR1 hR2 hR3 hR4
    have hX2 := (hB3.later hC4).later hR4
    have hY2 := hC3.later hR4
    have hbc : b < c := by have := hC1; omega
    have hcR : c < R := by have := hR1; omega
    have HB2 := Lib.hid ((hB4.trans (hC4.mono hB4.size)).trans (hR4.mono (Nat.le_trans hB4.size hC4.size)))
    have hwb : w.heap.size ≤ b := hB1
    have hwR : w.heap.size ≤ R := by omega
    clear hB3 hB4 hC3 hC4 hR4
    go_wp2_with fail
    refine (l05Ok_any b x w2 hr hx (BAt.of_blk hX2)).mono ?_
    rw [HOK.out]
    rintro e w3 ⟨rfl, hb3⟩
    have hX3 := hX2.later hb3
    have hY3 := hY2.later hb3
    have hR3' := hR3.later hb3
    have HB3 := Lib.hid (HB2.out.trans (hb3.mono HB2.out.size))
    clear hb3 hX2 hY2 hR3
    go_wp2_with fail
    refine (l05Ok_any c y w3 hr' hx' (BAt.of_blk hY3)).mono ?_
    rw [HOY.out]
    rintro e w4 ⟨rfl, hb4⟩
    have hX4 := hX3.later hb4
    have hY4 := hY3.later hb4
    have hR4 := hR3'.later hb4
    have HB4 := Lib.hid (HB3.out.trans (hb4.mono HB3.out.size))
    clear hb4 hX3 hY3 hR3'
    have qx := rng_cell (BAt.of_blk hX4)
    have qy := rng_cell (BAt.of_blk hY4)
    obtain ⟨qx0, qx1⟩ := qx
    obtain ⟨qy0, qy1⟩ := qy
    go_wp2_with (first | (with_reducible refine wpList_zero (zeroB _) ?_) | ((with_reducible refine wpList_putB (x := B0) hR4 ?_ ?_ ?_); rfl; rfl))
    intro w20 s20 b20 k20
    go_wp2_with fail
    refine ret_cell2 rfl rfl (loadB b20) rfl ⟨B0, by rw [HW.out]; rfl, by rw [HW.out], ?_⟩
    exact below_grown HB4.out k20 HB4.out.size hwR
  by_cases hh : x.gr.high = y.gr.high
  rotate_left
  · have HW : Hid (mixR x.n y.n (fb t) = (B0.n, 4)) := by show _ = _; unfold mixR; rw [hok, hoy, hsh, if_pos (show x.n.g.wide = y.n.g.wide from hw), if_neg (show ¬ x.n.g.high = y.n.g.high from hh)]; rfl
    have HWE := Lib.hid hw
    clear hw
    have HOK := Lib.hid hok
    have HOY := Lib.hid hoy
    obtain ⟨s0, s3, s5⟩ := mix_yes hsh
    clear hok hoy hsh
    have s1 : (fgt (fb t) (fb 0) || feq (fb t) (fb 0)) = true := by rcases s0 with h | ⟨h1, h2⟩ <;> simp_all
    have s4 : (flt (fb t) (fb 1065353216) || feq (fb t) (fb 1065353216)) = true := by rcases s5 with h | ⟨h1, h2⟩ <;> simp_all
    clear s0 s5
    go_enter Try.func61, Try.ntmps61
    go_wp2_with (with_reducible refine wpList_box rfl ?_)
    intro b w0 hB1 hB2 hB3 hB4
    go_wp2_with (with_reducible refine wpList_box rfl ?_)
    intro c w1 hC1 hC2 hC3 hC4
    go_wp2_with (with_reducible refine wpList_new newB ?_)
    intro R w2 hR1 hR2 hR3 hR4
    have hX2 := (hB3.later hC4).later hR4
    have hY2 := hC3.later hR4
    have hbc : b < c := by have := hC1; omega
    have hcR : c < R := by have := hR1; omega
    have HB2 := Lib.hid ((hB4.trans (hC4.mono hB4.size)).trans (hR4.mono (Nat.le_trans hB4.size hC4.size)))
    have hwb : w.heap.size ≤ b := hB1
    have hwR : w.heap.size ≤ R := by omega
    clear hB3 hB4 hC3 hC4 hR4
    go_wp2_with fail
    refine (l05Ok_any b x w2 hr hx (BAt.of_blk hX2)).mono ?_
    rw [HOK.out]
    rintro e w3 ⟨rfl, hb3⟩
    have hX3 := hX2.later hb3
    have hY3 := hY2.later hb3
    have hR3' := hR3.later hb3
    have HB3 := Lib.hid (HB2.out.trans (hb3.mono HB2.out.size))
    clear hb3 hX2 hY2 hR3
    go_wp2_with fail
    refine (l05Ok_any c y w3 hr' hx' (BAt.of_blk hY3)).mono ?_
    rw [HOY.out]
    rintro e w4 ⟨rfl, hb4⟩
    have hX4 := hX3.later hb4
    have hY4 := hY3.later hb4
    have hR4 := hR3'.later hb4
    have HB4 := Lib.hid (HB3.out.trans (hb4.mono HB3.out.size))
    clear hb4 hX3 hY3 hR3'
    have qx := rng_cell (BAt.of_blk hX4)
    have qy := rng_cell (BAt.of_blk hY4)
    obtain ⟨qx0, qx1⟩ := qx
    obtain ⟨qy0, qy1⟩ := qy
    rw [← HWE.out] at qy0
    go_wp2_with (first | (with_reducible refine wpList_zero (zeroB _) ?_) | ((with_reducible refine wpList_putB (x := B0) hR4 ?_ ?_ ?_); rfl; rfl))
    intro w20 s20 b20 k20
    go_wp2_with fail
    refine ret_cell2 rfl rfl (loadB b20) rfl ⟨B0, by rw [HW.out]; rfl, by rw [HW.out], ?_⟩
    exact below_grown HB4.out k20 HB4.out.size hwR
  have HWE := Lib.hid hw
  have HHE := Lib.hid hh
  have HW0 : Hid (mixR x.n y.n (fb t) = (if okB (mixN x.n y.n (fb t)) then (mixN x.n y.n (fb t), 0) else (B0.n, 4))) := by
    show _ = _; unfold mixR; rw [hok, hoy, hsh, if_pos (show x.n.g.wide = y.n.g.wide from HWE.out), if_pos (show x.n.g.high = y.n.g.high from HHE.out)]; rfl
  clear hw hh
  have HOK := Lib.hid hok
  have HOY := Lib.hid hoy
  obtain ⟨s0, s3, s5⟩ := mix_yes hsh
  clear hok hoy hsh
  have s1 : (fgt (fb t) (fb 0) || feq (fb t) (fb 0)) = true := by rcases s0 with h | ⟨h1, h2⟩ <;> simp_all
  have s4 : (flt (fb t) (fb 1065353216) || feq (fb t) (fb 1065353216)) = true := by rcases s5 with h | ⟨h1, h2⟩ <;> simp_all
  clear s0 s5
  go_enter Try.func61, Try.ntmps61
  go_wp2_with (with_reducible refine wpList_box rfl ?_)
  intro b w0 hB1 hB2 hB3 hB4
  go_wp2_with (with_reducible refine wpList_box rfl ?_)
  intro c w1 hC1 hC2 hC3 hC4
  go_wp2_with (with_reducible refine wpList_new newB ?_)
  intro R w2 hR1 hR2 hR3 hR4
  have hX2 := (hB3.later hC4).later hR4
  have hY2 := hC3.later hR4
  have hbc : b < c := by have := hC1; omega
  have hcR : c < R := by have := hR1; omega
  have HB2 := Lib.hid ((hB4.trans (hC4.mono hB4.size)).trans (hR4.mono (Nat.le_trans hB4.size hC4.size)))
  have hwb : w.heap.size ≤ b := hB1
  have hwR : w.heap.size ≤ R := by omega
  clear hB3 hB4 hC3 hC4 hR4
  go_wp2_with fail
  refine (l05Ok_any b x w2 hr hx (BAt.of_blk hX2)).mono ?_
  rw [HOK.out]
  rintro e w3 ⟨rfl, hb3⟩
  have hX3 := hX2.later hb3
  have hY3 := hY2.later hb3
  have hR3' := hR3.later hb3
  have HB3 := Lib.hid (HB2.out.trans (hb3.mono HB2.out.size))
  clear hb3 hX2 hY2 hR3
  go_wp2_with fail
  refine (l05Ok_any c y w3 hr' hx' (BAt.of_blk hY3)).mono ?_
  rw [HOY.out]
  rintro e w4 ⟨rfl, hb4⟩
  have hX4 := hX3.later hb4
  have hY4 := hY3.later hb4
  have hR4 := hR3'.later hb4
  have HB4 := Lib.hid (HB3.out.trans (hb4.mono HB3.out.size))
  clear hb4 hX3 hY3 hR3'
  have qx := rng_cell (BAt.of_blk hX4)
  have qy := rng_cell (BAt.of_blk hY4)
  obtain ⟨qx0, qx1⟩ := qx
  obtain ⟨qy0, qy1⟩ := qy
  rw [← HWE.out] at qy0
  rw [← HHE.out] at qy1
  have HX4 := Lib.hid hX4
  have HY4 := Lib.hid (BAt.of_blk hY4)
  have HR4 := Lib.hid hR4
  have hbl : b < w4.heap.size := hX4.lt
  have hRl : R < w4.heap.size := hR4.lt
  clear hX4 hY4 hR4
  go_wp2_with fail
  clear qx0 qx1 qy0 qy1
  go_loopw [8] (fun vj wr => UpdRel x (mixS x.n y.n (fb t)) (fun j => cellsTo x.gr.wide x.gr.high j) 64 w4 b vj wr) (fun vj _ => 64 - (intOf vj).toNat)
  case atStart => exact ⟨0, x.s, by omega, rfl, rfl, HX4.out, grown_refl _ _⟩
  case round =>
    obtain ⟨k, s', hk, rfl, hfs, hO, hgr⟩ := hrel
    have HGR := Lib.hid hgr
    have HFS := Lib.hid hfs
    have HO := Lib.hid hO
    have HGA : Hid (GAt wr b 0 x.gr) := (BAt.of_blk hO).g
    have HY := Lib.hid (HY4.out.grown hgr (by omega))
    clear hgr hfs hO
    by_cases hlt : k < 64
    · have k1 : (k : Int) < 64 := by omega
      cases hh : hasB x.gr.wide x.gr.high k
      · have HH := Lib.hid hh
        clear hh
        go_wp2_with (go_at_call 111; refine (l01Is_any b 0 k x.gr _ hlt hr HGA.out).mono ?_; rw [HH.out]; rintro e w' ⟨rfl, rfl⟩)
        go_roundw
        case rel => exact ⟨k + 1, s', by omega, by go_num, by dsimp only; rw [cellsTo_no HH.out]; exact HFS.out, HO.out, HGR.out⟩
        case measure => simp [intOf]; omega
      · have HH := Lib.hid hh
        have HS : Hid (fb (s' k) = fm x.s k) := by
          show _ = _
          rw [← fm_of hlt, HFS.out]; exact updL_out cellsTo_out
        clear hh
        go_wp2_with (go_at_call 111; refine (l01Is_any b 0 k x.gr _ hlt hr HGA.out).mono ?_; rw [HH.out]; rintro e w' ⟨rfl, rfl⟩)
        have q1 := fun zz => ext_cell wr zz ((BAt.of_blk HO.out).s hlt)
        have q2 := fun zz => ext_cell wr zz (HY.out.s hlt)
        refine wp_soft_tail 19 (SF (some 0)) (by kernel_rfl) (by kernel_rfl) ?_
        simp only [List.take_succ_cons, List.take_zero, List.drop_succ_cons, List.drop_zero]
        repeat (first | (refine soft_arith (fun _ n h => h.drewN n) _ _ rfl rfl rfl ?_; intro r8 hr8) | (refine soft_step (fun K hK => ?_); go_simp; (try go_bits); refine hK _ ?_; clear hK K))
        rename_i rs hrs rq hrq
        refine soft_nil ?_
        rintro w5 hw5
        have HG5 := Lib.hid (grown_trans HGR.out (grown_below hw5.below))
        have hO5 := HO.out.later hw5.below
        have HV : Hid (fb r8 = mixS x.n y.n (fb t) k) := by
          show fb r8 = fadd (fm x.s k) (fmul (fb t) (fsub (fm y.s k) (fm x.s k)))
          rw [hr8.out, fop, hrq.out, fop, hrs.out, fop, HS.out, fm_of (f := y.s) hlt]
        clear hw5 q1 q2 hr8 hrq hrs
        go_wp2_with ((with_reducible refine wpList_gateS ?_); refine wpList_setS hO5 hlt rfl rfl ?_)
        intro w7 s7 b7 k7
        have H7 := Lib.hid b7
        have HG7 := Lib.hid (grown_trans HG5.out k7)
        clear b7 k7 hO5
        go_wp2_with fail
        go_roundw
        case rel =>
          refine ⟨k + 1, upd s' k r8, by omega, by go_num, ?_, H7.out, HG7.out⟩
          dsimp only
          rw [cellsTo_yes HH.out, updL_snoc, fm_upd hlt, HFS.out, HV.out]
        case measure => simp [intOf]; omega
    · obtain rfl : k = 64 := by omega
      have HN : Hid (({ x with s := s' } : Br).n = mixN x.n y.n (fb t)) := n_of HFS.out
      have HBw := Lib.hid (below_grown HB4.out HGR.out HB4.out.size hwb)
      have hRw := HR4.out.grown HGR.out (by omega)
      cases hok : okB (mixN x.n y.n (fb t))
      · have HOKM := Lib.hid hok
        have HW : Hid (mixR x.n y.n (fb t) = (B0.n, 4)) := by show _ = _; rw [HW0.out, hok]; rfl
        clear hok
        go_wp2_with fail
        refine (l05Ok_any b { x with s := s' } wr hr hx (BAt.of_blk HO.out)).mono ?_
        rw [HN.out, HOKM.out]
        rintro e w8 ⟨rfl, hb8⟩
        have hR8 := hRw.later hb8
        have hO8 := HO.out.later hb8
        have HB8 := Lib.hid (HBw.out.trans (hb8.mono HBw.out.size))
        clear hb8
        go_wp2_with (first | (with_reducible refine wpList_zero (zeroB _) ?_) | ((with_reducible refine wpList_putB (x := B0) hR8 ?_ ?_ ?_); rfl; rfl))
        intro w20 s20 b20 k20
        go_wp2_with fail
        refine ret_cell2 rfl rfl (loadB b20) rfl ⟨B0, by rw [HW.out]; rfl, by rw [HW.out], ?_⟩
        exact below_grown HB8.out k20 HB8.out.size hwR
      · have HOKM := Lib.hid hok
        have HW : Hid (mixR x.n y.n (fb t) = (mixN x.n y.n (fb t), 0)) := by show _ = _; rw [HW0.out, hok]; rfl
        clear hok
        go_wp2_with fail
        refine (l05Ok_any b { x with s := s' } wr hr hx (BAt.of_blk HO.out)).mono ?_
        rw [HN.out, HOKM.out]
        rintro e w8 ⟨rfl, hb8⟩
        have hR8 := hRw.later hb8
        have hO8 := HO.out.later hb8
        have HB8 := Lib.hid (HBw.out.trans (hb8.mono HBw.out.size))
        clear hb8
        go_wp2_with (first | ((with_reducible refine wpList_getB hO8 ?_ ?_); rfl) | ((with_reducible refine wpList_putB (x := { x with s := s' }) hR8 ?_ ?_ ?_); rfl; rfl))
        intro w20 s20 b20 k20
        go_wp2_with fail
        refine ret_cell2 rfl rfl (loadB b20) rfl ⟨{ x with s := s' }, by rw [HW.out]; rfl, by rw [HW.out]; exact HN.out, ?_⟩
        exact below_grown HB8.out k20 HB8.out.size hwR

end Go.Proofs.Ytfcphfdfpjmgiaa

namespace Go.Proofs.Ytfcphfdfpjmgiaa
open Go.RowKit

def neg0 (f : Nat → F) (c : Nat) : F := fsub (some 0) (f c)
def revN (n : N) : N := { n with g := { n.g with h := updL n.g.h (neg0 n.g.h) (cellsTo n.g.wide n.g.high 64), g := updL n.g.g (neg0 n.g.g) (cellsTo n.g.wide n.g.high 64) } }
def revR (n : N) : N × Int := if okB n then (if okB (revN n) then (revN n, 0) else (B0.n, 4)) else (B0.n, 1)
def withHG (x : Br) (h' g' : Nat → Nat) : Br := { x with gr := { x.gr with h := h', g := g' } }
theorem n_withHG {x : Br} {h' g' : Nat → Nat} {fh fg : Nat → F} (h1 : fm h' = fh) (h2 : fm g' = fg) : (withHG x h' g').n = { x.n with g := { x.n.g with h := fh, g := fg } } := by subst h1; subst h2; rfl
theorem zero_plain : plain (some 0) = true := by decide
theorem gain_plain {m : M} (h : okI m = true) {c : Nat} (hc : c < 64) (hh : hasB m.wide m.high c = true) : plain (m.g c) = true := by
  unfold okI fieldsI at h
  simp only [Bool.and_eq_true] at h
  have h3 := h.1.2.1.2
  unfold fieldTo at h3
  have := List.all_eq_true.1 h3 c (List.mem_range.2 hc)
  rw [hh] at this
  exact this
theorem cell_setGk (g : G) {k : Nat} (hk : k < 64) (r i : Nat) : G.cell { g with g := upd g.g k r } i = if i = 66 + k then .float .f32 r else g.cell i := by
  unfold G.cell upd
  by_cases h1 : i < 130 ∧ 66 ≤ i
  · obtain ⟨p1, p2⟩ := h1
    have n0 : ¬ i = 0 := by omega
    have n1 : ¬ i = 1 := by omega
    have n2 : ¬ i < 66 := by omega
    simp only [n0, n1, n2, p1, if_false, if_true]
    by_cases e : i = 66 + k
    · rw [if_pos e, if_pos (by omega)]
    · rw [if_neg e, if_neg (by omega)]
  · rw [if_neg (by omega : ¬ i = 66 + k)]
    repeat' (first | (exfalso; omega) | split | rfl)
theorem cellB_setH (x : Br) (h' g' : Nat → Nat) {k : Nat} (hk : k < 64) (r i : Nat) : (withHG x (upd h' k r) g').cell i = if i = 130 + k then .float .f32 r else (withHG x h' g').cell i := by
  unfold Br.cell
  by_cases h : i < 195
  · rw [if_pos h, if_pos h]
    exact cell_setH ({ x.gr with h := h', g := g' } : G) hk r i
  · rw [if_neg h, if_neg h]; exact (if_neg (by omega)).symm
theorem cellB_setG (x : Br) (h' g' : Nat → Nat) {k : Nat} (hk : k < 64) (r i : Nat) : (withHG x h' (upd g' k r)).cell i = if i = 66 + k then .float .f32 r else (withHG x h' g').cell i := by
  unfold Br.cell
  by_cases h : i < 195
  · rw [if_pos h, if_pos h]
    exact cell_setGk ({ x.gr with h := h', g := g' } : G) hk r i
  · rw [if_neg h, if_neg h]; exact (if_neg (by omega)).symm
theorem arrB_setH (x : Br) (h' g' : Nat → Nat) {k : Nat} (hk : k < 64) (r : Nat) : (arrB (withHG x h' g')).setIfInBounds (130 + k) (.float .f32 r) = arrB (withHG x (upd h' k r) g') :=
  arrB_set1 (by omega) fun i _ => cellB_setH x h' g' hk r i
theorem arrB_setG (x : Br) (h' g' : Nat → Nat) {k : Nat} (hk : k < 64) (r : Nat) : (arrB (withHG x h' g')).setIfInBounds (66 + k) (.float .f32 r) = arrB (withHG x h' (upd g' k r)) :=
  arrB_set1 (by omega) fun i _ => cellB_setG x h' g' hk r i
theorem hg_cells {w : World} {b : Nat} {x : Br} {h' g' : Nat → Nat} {t : TypeId} (hb : Blk w b (arrB (withHG x h' g')) t) {k : Nat} (hk : k < 64) :
    w.cell? ⟨b, 130 + k, none⟩ = some (.float .f32 (h' k)) ∧ w.cell? ⟨b, 66 + k, none⟩ = some (.float .f32 (g' k)) := by
  have h1 := BAt.of_blk hb (130 + k) (by omega)
  have h2 := BAt.of_blk hb (66 + k) (by omega)
  unfold Br.cell withHG at h1 h2
  rw [if_pos (by omega)] at h1 h2
  unfold G.cell at h1 h2
  rw [if_neg (by omega), if_neg (by omega), if_neg (by omega), if_neg (by omega), if_pos (by omega), Nat.add_sub_cancel_left] at h1
  rw [if_neg (by omega), if_neg (by omega), if_neg (by omega), if_pos (by omega), Nat.add_sub_cancel_left] at h2
  exact ⟨h1, h2⟩

section
variable {ops : Array Oper} {Q : Exit → Act → World → Prop} {rest : List Oper} {a : Act} {w : World} {dst : Option Tmp} {ty : TypeId} {X Y : Operand} {pos : String} {after : Array Edge} {B : Nat} {t : TypeId}
theorem wpList_setBH {x : Br} {h' g' : Nat → Nat} {k r : Nat} (hg : Blk w B (arrB (withHG x h' g')) t) (hk : k < 64) (hx : a.eval X = .pointer (some ⟨B, 130 + k, none⟩)) (hy : a.eval Y = .float .f32 r)
    (h : ∀ w', w'.heap.size = w.heap.size → Blk w' B (arrB (withHG x (upd h' k r) g')) t → w.grownBy w' (some B) → wpList Try.prog ops Q rest (a.put dst undef) w') : wpList Try.prog ops Q (⟨dst, .store 25 X Y, ty, pos, after, none⟩ :: rest) a w :=
  wpList_put1 size32 hg (by rw [arrB_size]; omega) hx hy rfl rfl (by rw [arrB_setH x h' g' hk]; exact h)
theorem wpList_setBG {x : Br} {h' g' : Nat → Nat} {k r : Nat} (hg : Blk w B (arrB (withHG x h' g')) t) (hk : k < 64) (hx : a.eval X = .pointer (some ⟨B, 66 + k, none⟩)) (hy : a.eval Y = .float .f32 r)
    (h : ∀ w', w'.heap.size = w.heap.size → Blk w' B (arrB (withHG x h' (upd g' k r))) t → w.grownBy w' (some B) → wpList Try.prog ops Q rest (a.put dst undef) w') : wpList Try.prog ops Q (⟨dst, .store 25 X Y, ty, pos, after, none⟩ :: rest) a w :=
  wpList_put1 size32 hg (by rw [arrB_size]; omega) hx hy rfl rfl (by rw [arrB_setG x h' g' hk]; exact h)
end

/-- The brine so far. -/
def RevRel (x : Br) (f : Nat → List Nat) (most : Nat) (w : World) (O : Nat) (v : Value) (wr : World) : Prop :=
  ∃ (j : Nat) (h' g' : Nat → Nat), j ≤ most ∧ v = .int .i64 j ∧ fm h' = updL (fm x.gr.h) (neg0 (fm x.gr.h)) (f j) ∧ fm g' = updL (fm x.gr.g) (neg0 (fm x.gr.g)) (f j) ∧ Blk wr O (arrB (withHG x h' g')) 54 ∧ w.grownBy wr (some O)

set_option maxRecDepth 100000 in
set_option maxHeartbeats 3200000 in
theorem ReverseBrine_any (x : Br) (w : World) (hr : x.gr.Rng) (hx : x.gr.Fx) :
    Calls Try.prog 63 #[.agg (arrB x)] w (RetBC' (revR x.n) w) := by
  cases hok : okB x.n
  · have HW : Hid (revR x.n = (B0.n, 1)) := by show _ = _; unfold revR; rw [hok]; rfl
    have HOK := Lib.hid hok
    clear hok
    go_enter Try.func63, Try.ntmps63
    go_wp2_with (with_reducible refine wpList_box rfl ?_)
    intro b w1 hB1 hB2 hB3 hB4
    go_wp2_with (with_reducible refine wpList_new newB ?_)
    intro R w2 hR1 hR2 hR3 hR4
    have hX2 := hB3.later hR4
    have hbR : b < R := by have := hB4.size; omega
    have HB2 := Lib.hid (hB4.trans (hR4.mono hB4.size))
    have hwR : w.heap.size ≤ R := by have := hB4.size; omega
    clear hB3 hB4 hR4
    go_wp2_with ((with_reducible refine wpList_getB hX2 ?_ ?_); rfl)
    refine (ValidBrine_any x w2 hr hx).mono ?_
    rw [HOK.out]
    rintro e w3 ⟨rfl, hb3⟩
    have hX3 := hX2.later hb3
    have hR3' := hR3.later hb3
    have HB3 := Lib.hid (HB2.out.trans (hb3.mono HB2.out.size))
    clear hb3 hX2 hR3
    go_wp2_with (first | (with_reducible refine wpList_zero (zeroB _) ?_) | ((with_reducible refine wpList_putB (x := B0) hR3' ?_ ?_ ?_); rfl; rfl))
    intro w20 s20 b20 k20
    go_wp2_with fail
    refine ret_cell2 rfl rfl (loadB b20) rfl ⟨B0, by rw [HW.out]; rfl, by rw [HW.out], ?_⟩
    exact below_grown HB3.out k20 HB3.out.size hwR
  have HW0 : Hid (revR x.n = (if okB (revN x.n) then (revN x.n, 0) else (B0.n, 4))) := by show _ = _; unfold revR; rw [hok]; rfl
  have HOI : Hid (okI x.gr.m = true) := by
    have := hok
    unfold okB at this
    rw [Bool.and_eq_true] at this
    exact this.1
  have HOK := Lib.hid hok
  clear hok
  go_enter Try.func63, Try.ntmps63
  go_wp2_with (with_reducible refine wpList_box rfl ?_)
  intro b w1 hB1 hB2 hB3 hB4
  go_wp2_with (with_reducible refine wpList_new newB ?_)
  intro R w2 hR1 hR2 hR3 hR4
  have hX2 := hB3.later hR4
  have hbR : b < R := by have := hB4.size; omega
  have HB2 := Lib.hid (hB4.trans (hR4.mono hB4.size))
  have hwR : w.heap.size ≤ R := by have := hB4.size; omega
  clear hB3 hB4 hR4
  go_wp2_with ((with_reducible refine wpList_getB hX2 ?_ ?_); rfl)
  refine (ValidBrine_any x w2 hr hx).mono ?_
  rw [HOK.out]
  rintro e w3 ⟨rfl, hb3⟩
  have hX3 := hX2.later hb3
  have hR3' := hR3.later hb3
  have HB3 := Lib.hid (HB2.out.trans (hb3.mono HB2.out.size))
  clear hb3 hX2 hR3
  go_wp2_with fail
  refine (cells_any b 0 x.gr w3 hr (BAt.of_blk hX3).g).mono ?_
  rintro e w5 ⟨v, rfl, hown, hb5⟩
  obtain ⟨aL, cap, rfl, hL⟩ := list_form hown
  have HL := Lib.hid hL
  have HX5 := Lib.hid (hX3.later hb5)
  have HR5 := Lib.hid (hR3'.later hb5)
  have HB5 := Lib.hid (HB3.out.trans (hb5.mono HB3.out.size))
  have hlen := cellsTo_length x.gr.wide x.gr.high 64
  have hbl : b < w3.heap.size := hX3.lt
  have hb_ : w.heap.size ≤ b := hB1
  clear hL hown hb5 hX3 hR3'
  go_wp2_with fail
  go_loopw [13] (fun vj wr => RevRel x (fun j => (cellsTo x.gr.wide x.gr.high 64).take j) (cellsTo x.gr.wide x.gr.high 64).length w5 b vj wr) (fun vj _ => (cellsTo x.gr.wide x.gr.high 64).length - (intOf vj).toNat)
  case atStart => exact ⟨0, x.gr.h, x.gr.g, by omega, rfl, rfl, rfl, HX5.out, grown_refl _ _⟩
  case round =>
    obtain ⟨j, h', g', hj, rfl, hfh, hfg, hO, hgr⟩ := hrel
    have HGR := Lib.hid hgr
    have HFH := Lib.hid hfh
    have HFG := Lib.hid hfg
    have HO := Lib.hid hO
    clear hgr hfh hfg hO
    by_cases hlt : j < (cellsTo x.gr.wide x.gr.high 64).length
    · obtain ⟨c, hc⟩ : ∃ c, (cellsTo x.gr.wide x.gr.high 64)[j]? = some c := ⟨_, List.getElem?_eq_getElem hlt⟩
      have hc64 : c < 64 := cellsTo_lt (List.mem_of_getElem? hc)
      have hhas : hasB x.gr.wide x.gr.high c = true := by
        have := List.mem_of_getElem? hc
        unfold cellsTo at this
        exact (List.mem_filter.1 this).2
      have hj64 : j < 64 := by omega
      obtain ⟨gq, rfl, hq1, hq2, hq3⟩ := HL.out j c hc
      have hcell := cell_grown hq3 HGR.out (by omega)
      have HC := Lib.hid hc
      have HSH : Hid (fb (h' c) = fm x.gr.h c) := by
        show _ = _
        rw [← fm_of hc64, HFH.out]; exact updL_same (cells_nodup _ _ _) hc
      have HSG : Hid (fb (g' c) = fm x.gr.g c) := by
        show _ = _
        rw [← fm_of hc64, HFG.out]; exact updL_same (cells_nodup _ _ _) hc
      obtain ⟨r1, hr1, _⟩ := fsub_plain zero_plain (head_plain HOI.out hc64 hhas)
      obtain ⟨r2, hr2, _⟩ := fsub_plain zero_plain (gain_plain HOI.out hc64 hhas)
      have HP1 : Hid (fsub (fb 0) (fb (h' c)) = some r1) := by
        show _ = _
        rw [HSH.out, fb0]; exact hr1
      have HP2 : Hid (fsub (fb 0) (fb (g' c)) = some r2) := by
        show _ = _
        rw [HSG.out, fb0]; exact hr2
      have HR1 : Hid (fb r1 = neg0 (fm x.gr.h) c) := by show _ = _; unfold neg0; rw [show fm x.gr.h c = x.gr.m.h c from rfl, hr1]; exact fb_sub ((fsub_fb 0 (h' c)).symm.trans HP1.out)
      have HR2 : Hid (fb r2 = neg0 (fm x.gr.g) c) := by show _ = _; unfold neg0; rw [show fm x.gr.g c = x.gr.m.g c from rfl, hr2]; exact fb_sub ((fsub_fb 0 (g' c)).symm.trans HP2.out)
      have p1 : ∀ (w : World) (t : TypeId), Sem.run Try.prog (binOp .sub t (.float .f32 0) (.float .f32 (h' c))) w = .ok (.float .f32 r1) w := fun w t => run_arith_some w rfl HP1.out
      have p2 : ∀ (w : World) (t : TypeId), Sem.run Try.prog (binOp .sub t (.float .f32 0) (.float .f32 (g' c))) w = .ok (.float .f32 r2) w := fun w t => run_arith_some w rfl HP2.out
      have j1 : (j : Int) < ((cellsTo x.gr.wide x.gr.high 64).length : Int) := by omega
      have c1 : (c : Int) < 64 := by omega
      obtain ⟨q1, q2⟩ := hg_cells HO.out hc64
      have q3 := HO.out.free (130 + c)
      have q4 := HO.out.free (66 + c)
      have st1 : Sem.run Try.prog (store ⟨b, 130 + c, none⟩ (.float .f32 r1)) wr.drew = .ok () (wr.setCell ⟨b, 130 + c, none⟩ (.float .f32 r1)).drew := by
        rw [run_store Try.prog _ _ _ _ rfl, show wr.drew.cell? ⟨b, 130 + c, none⟩ = some (.float .f32 (h' c)) from q1, show wr.drew.frozen? ⟨b, 130 + c, none⟩ = false from q3]; rfl
      have HO2 : Blk (wr.setCell ⟨b, 130 + c, none⟩ (.float .f32 r1)).drew b (arrB (withHG x (upd h' c r1) g')) 54 := by
        rw [← arrB_setH x h' g' hc64]; exact (show Blk wr.drew b _ _ from HO.out).cell_same _ _
      have st2 : Sem.run Try.prog (store ⟨b, 66 + c, none⟩ (.float .f32 r2)) (wr.setCell ⟨b, 130 + c, none⟩ (.float .f32 r1)).drew = .ok () ((wr.setCell ⟨b, 130 + c, none⟩ (.float .f32 r1)).drew.setCell ⟨b, 66 + c, none⟩ (.float .f32 r2)) := by
        rw [run_store Try.prog _ _ _ _ rfl, (hg_cells HO2 hc64).2, HO2.free (66 + c)]; rfl
      have HO3 : Hid (Blk ((wr.setCell ⟨b, 130 + c, none⟩ (.float .f32 r1)).drew.setCell ⟨b, 66 + c, none⟩ (.float .f32 r2)) b (arrB (withHG x (upd h' c r1) (upd g' c r2))) 54) := by
        show Blk _ _ _ _
        rw [← arrB_setG x (upd h' c r1) g' hc64]; exact HO2.cell_same _ _
      have HG3 : Hid (w5.grownBy ((wr.setCell ⟨b, 130 + c, none⟩ (.float .f32 r1)).drew.setCell ⟨b, 66 + c, none⟩ (.float .f32 r2)) (some b)) :=
        grown_trans (w' := wr) HGR.out ⟨rfl, rfl, rfl, by simp [World.setCell], fun k _ hk => (heap_setCell_other _ _ k _ (fun e => hk (by rw [e]))).trans (heap_setCell_other _ _ k _ (fun e => hk (by rw [e])))⟩
      clear hq3 hc hr1 hr2 hhas HO2
      go_wp2_with fail
      go_big_region
      go_wp2_with fail
      go_roundw
      case rel =>
        refine ⟨j + 1, upd h' c r1, upd g' c r2, by omega, by go_num, ?_, ?_, HO3.out, HG3.out⟩
        · dsimp only
          rw [take_more HC.out, updL_snoc, fm_upd hc64, HFH.out, HR1.out]
        · dsimp only
          rw [take_more HC.out, updL_snoc, fm_upd hc64, HFG.out, HR2.out]
      case measure => simp [intOf]; omega
    · have hjn : j = (cellsTo x.gr.wide x.gr.high 64).length := by omega
      have j1 : ¬ (j : Int) < ((cellsTo x.gr.wide x.gr.high 64).length : Int) := by omega
      have HN : Hid ((withHG x h' g').n = revN x.n) := by
        show _ = _
        have t1 := HFH.out
        have t2 := HFG.out
        dsimp only at t1 t2
        rw [List.take_of_length_le (Nat.le_of_eq hjn.symm)] at t1 t2
        exact n_withHG t1 t2
      clear hjn
      have HBw := Lib.hid (below_grown HB5.out HGR.out HB5.out.size hb_)
      have hRw := HR5.out.grown HGR.out (by omega)
      cases hok : okB (revN x.n)
      · have HOKM := Lib.hid hok
        have HW : Hid (revR x.n = (B0.n, 4)) := by show _ = _; rw [HW0.out, hok]; rfl
        clear hok
        go_wp2_with ((with_reducible refine wpList_getB HO.out ?_ ?_); rfl)
        refine (ValidBrine_any (withHG x h' g') wr hr hx).mono ?_
        rw [HN.out, HOKM.out]
        rintro e w8 ⟨rfl, hb8⟩
        have hR8 := hRw.later hb8
        have hO8 := HO.out.later hb8
        have HB8 := Lib.hid (HBw.out.trans (hb8.mono HBw.out.size))
        clear hb8
        go_wp2_with (first | (with_reducible refine wpList_zero (zeroB _) ?_) | ((with_reducible refine wpList_putB (x := B0) hR8 ?_ ?_ ?_); rfl; rfl))
        intro w20 s20 b20 k20
        go_wp2_with fail
        refine ret_cell2 rfl rfl (loadB b20) rfl ⟨B0, by rw [HW.out]; rfl, by rw [HW.out], ?_⟩
        exact below_grown HB8.out k20 HB8.out.size hwR
      · have HOKM := Lib.hid hok
        have HW : Hid (revR x.n = (revN x.n, 0)) := by show _ = _; rw [HW0.out, hok]; rfl
        clear hok
        go_wp2_with ((with_reducible refine wpList_getB HO.out ?_ ?_); rfl)
        refine (ValidBrine_any (withHG x h' g') wr hr hx).mono ?_
        rw [HN.out, HOKM.out]
        rintro e w8 ⟨rfl, hb8⟩
        have hR8 := hRw.later hb8
        have hO8 := HO.out.later hb8
        have HB8 := Lib.hid (HBw.out.trans (hb8.mono HBw.out.size))
        clear hb8
        go_wp2_with (first | ((with_reducible refine wpList_getB hO8 ?_ ?_); rfl) | ((with_reducible refine wpList_putB (x := withHG x h' g') hR8 ?_ ?_ ?_); rfl; rfl))
        intro w20 s20 b20 k20
        go_wp2_with fail
        refine ret_cell2 rfl rfl (loadB b20) rfl ⟨withHG x h' g', by rw [HW.out]; rfl, by rw [HW.out]; exact HN.out, ?_⟩
        exact below_grown HB8.out k20 HB8.out.size hwR

end Go.Proofs.Ytfcphfdfpjmgiaa
