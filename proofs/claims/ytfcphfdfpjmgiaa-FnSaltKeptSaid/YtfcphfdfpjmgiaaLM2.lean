/- What is drawn: grounds, and the small functions on them. -/
import Derived.Test.YtfcphfdfpjmgiaaLM0
import Derived.Test.YtfcphfdfpjmgiaaBeen
import Derived.Test.YtfcphfdfpjmgiaaLM1
import Derived.Laws.BitsAllLaws
import Derived.Test.YtfcphfdfpjmgiaaLM1
import Derived.Test.YtfcphfdfpjmgiaaWay
import Derived.Test.YtfcphfdfpjmgiaaFlist
import Derived.BigQuiet
import Derived.Test.YtfcphfdfpjmgiaaLM1
import Derived.Test.YtfcphfdfpjmgiaaLM0
import Derived.Test.YtfcphfdfpjmgiaaAsk
import Derived.Test.YtfcphfdfpjmgiaaTold
namespace Go.Proofs.Ytfcphfdfpjmgiaa
open Go.RowKit

/-! The bits of some cells. -/
theorem bitsL_been {l : List Nat} (h : ∀ c ∈ l, c < 64) : bitsL l = (beenN l : Int) := by
  have key : ∀ (l : List Nat) (a : Nat), (∀ c ∈ l, c < 64) → a < 2 ^ 64 → l.foldl orBit (a : Int) = ((l.foldl (fun a c => a ||| 2 ^ c) a : Nat) : Int) := by
    intro l
    induction l with
    | nil => intro a _ _; rfl
    | cons c r ih =>
      intro a hc ha
      have hc0 : c < 64 := hc c (by simp)
      have hp : 2 ^ c < 2 ^ 64 := Nat.pow_lt_pow_right (by decide) hc0
      have e1 : IntKind.u64.wrap (2 ^ c) = ((2 ^ c : Nat) : Int) := by
        rw [IntKind.wrap_u64, show ((2 : Int) ^ c) = ((2 ^ c : Nat) : Int) by simp]
        generalize 2 ^ c = p at hp
        omega
      have e2 : orBit (a : Int) c = ((a ||| 2 ^ c : Nat) : Int) := by
        unfold orBit
        rw [e1]
        exact u64_or_nat _ _ ha hp
      show r.foldl orBit (orBit (a : Int) c) = _
      rw [e2]
      exact ih _ (fun c hc' => hc c (by simp [hc'])) (Nat.or_lt_two_pow ha hp)
  exact key l 0 h (by decide)
theorem fixB_been {l : List Nat} (h : ∀ c ∈ l, c < 64) (k : Nat) : fixB (bitsL l) k = decide (k ∈ l) := by
  rw [bitsL_been h, ← been_odd]
  unfold fixB
  rw [show ((2 : Int) ^ k) = ((2 ^ k : Nat) : Int) by simp, ← Int.natCast_ediv]
  generalize beenN l / 2 ^ k = q
  exact decide_eq_decide.2 (by omega)
theorem bitsL_rng {l : List Nat} (h : ∀ c ∈ l, c < 64) : 0 ≤ bitsL l ∧ bitsL l < 18446744073709551616 := by
  rw [bitsL_been h]
  have := beenN_lt h
  omega
theorem bitsL_ne {l : List Nat} (h : ∀ c ∈ l, c < 64) {c : Nat} (hc : c ∈ l) : bitsL l ≠ 0 := by
  rw [bitsL_been h]
  intro h0
  have h1 : beenN l = 0 := by omega
  have h2 := beenN_bit l c
  rw [h1, Nat.zero_testBit] at h2
  simp [hc] at h2
theorem bitsL_less {l s : List Nat} (h : ∀ c ∈ s, c < 64) (hs : ∀ c ∈ l, c ∈ s) : bits BinOp.andNot IntKind.u64 (bitsL l) (bitsL s) = 0 := by
  have hl : ∀ c ∈ l, c < 64 := fun c hc => h c (hs c hc)
  rw [bitsL_been h, bitsL_been hl, u64_andNot_nat _ _ (beenN_lt hl) (beenN_lt h)]
  have : beenN l &&& (18446744073709551615 - beenN s) = 0 := by
    apply Nat.eq_of_testBit_eq
    intro i
    rw [Nat.zero_testBit, Nat.testBit_and, beenN_bit]
    by_cases hi : i ∈ l
    · have h2 := hs i hi
      have h3 : (2 ^ 64 - 1 - beenN s).testBit i = (decide (i < 64) && !(beenN s).testBit i) := by
        have := Nat.testBit_two_pow_sub_succ (x := beenN s) (n := 64) (beenN_lt h) i
        rw [show 2 ^ 64 - 1 - beenN s = 2 ^ 64 - (beenN s + 1) by omega]
        exact this
      rw [show (18446744073709551615 : Nat) = 2 ^ 64 - 1 from rfl, h3, beenN_bit]
      simp [h2]
    · simp [hi]
  rw [this]; rfl

/-! Numbers of a few quarters. -/
def qF (z : Int) : F := fdiv (ofI z) (some 1082130432)
def qB (z : Int) : Nat := (qF z).getD 0
theorem qF_all : ∀ n : Fin 105, qF ((n.val : Int) - 32) = some (qB ((n.val : Int) - 32)) ∧ fb (qB ((n.val : Int) - 32)) = some (qB ((n.val : Int) - 32)) := by decide +kernel
theorem qF_eq {z : Int} (h1 : -32 ≤ z) (h2 : z ≤ 72) : qF z = some (qB z) ∧ fb (qB z) = some (qB z) := by
  have h := qF_all ⟨(z + 32).toNat, by omega⟩
  have e : (((z + 32).toNat : Nat) : Int) - 32 = z := by omega
  have h' : qF ((((z + 32).toNat : Nat) : Int) - 32) = some (qB ((((z + 32).toNat : Nat) : Int) - 32)) ∧ fb (qB ((((z + 32).toNat : Nat) : Int) - 32)) = some (qB ((((z + 32).toNat : Nat) : Int) - 32)) := h
  rw [e] at h'
  exact h'
theorem qB_zero : qB 0 = 0 := by decide +kernel
theorem head_all : ∀ n : Fin 65, fadd (some 1092616192) (qF ((n.val : Int) - 32)) = some (qB ((n.val : Int) + 8)) := by decide +kernel
theorem plain_all : ∀ n : Fin 105, plain (some (qB ((n.val : Int) - 32))) = true := by decide +kernel
theorem plain_q {z : Int} (h1 : -32 ≤ z) (h2 : z ≤ 72) : plain (fb (qB z)) = true := by
  have h : plain (some (qB ((((z + 32).toNat : Nat) : Int) - 32))) = true := plain_all ⟨(z + 32).toNat, by omega⟩
  have e : (((z + 32).toNat : Nat) : Int) - 32 = z := by omega
  rw [e] at h
  rw [(qF_eq h1 h2).2]
  exact h
theorem amount_all : ∀ n : Fin 13, amount (some (qB (n.val : Int))) = true := by decide +kernel
theorem amount_q {z : Nat} (h : z ≤ 12) : amount (fb (qB z)) = true := by
  rw [(qF_eq (by omega) (by omega)).2]
  exact amount_all ⟨z, by omega⟩

/-- What is drawn for a cell. -/
def DrC (g : G) (j : Nat) : Prop := (∃ c : Nat, c ≤ 12 ∧ g.c j = qB c) ∧ (∃ z : Int, -32 ≤ z ∧ z ≤ 32 ∧ g.g j = qB z) ∧ (∃ z : Int, 8 ≤ z ∧ z ≤ 72 ∧ g.h j = qB z)
/-- Drawn for the cells up to k, with these cells fixed. -/
structure DrTo (g : G) (k : Nat) (fx : List Nat) : Prop where
  wide : 2 ≤ g.wide ∧ g.wide ≤ 4
  high : 2 ≤ g.high ∧ g.high ≤ 4
  cell : ∀ j, j < k → hasB g.wide g.high j = true → DrC g j
  out : ∀ j, (k ≤ j ∨ hasB g.wide g.high j = false) → g.c j = 0 ∧ g.g j = 0 ∧ g.h j = 0
  fixs : ∀ c ∈ fx, c ∈ cellsTo g.wide g.high k
  fixed : g.fixed = bitsL fx
theorem cellsTo_iff {W H : Int} {k c : Nat} : c ∈ cellsTo W H k ↔ c < k ∧ hasB W H c = true := by
  unfold cellsTo
  rw [List.mem_filter, List.mem_range]
/-- A drawn ground. -/
structure Drawn (g : G) : Prop where
  wide : 2 ≤ g.wide ∧ g.wide ≤ 4
  high : 2 ≤ g.high ∧ g.high ≤ 4
  cell : ∀ j, j < 64 → hasB g.wide g.high j = true → DrC g j
  out : ∀ j, j < 64 → hasB g.wide g.high j = false → g.c j = 0 ∧ g.g j = 0 ∧ g.h j = 0
  fx : ∃ l : List Nat, g.fixed = bitsL l ∧ (∀ c ∈ l, c ∈ cellsM g.m) ∧ ∃ c, c ∈ l
theorem cells64 {m : M} {c : Nat} (h : c ∈ cellsM m) : c < 64 := cellsTo_lt h
theorem Drawn.fields {g : G} (h : Drawn g) : fieldsI g.m = true := by
  have f0 : feq (some 0) (some 0) = true := by decide
  have z0 : fb 0 = some 0 := by decide
  have key : ∀ (right : F → Bool) (f : Nat → Nat), (∀ j, j < 64 → hasB g.wide g.high j = true → right (fb (f j)) = true) → (∀ j, j < 64 → hasB g.wide g.high j = false → f j = 0) → fieldTo g.wide g.high right (fm f) 64 = true := by
    intro right f h1 h2
    unfold fieldTo
    rw [List.all_eq_true]
    intro j hj
    have hj := List.mem_range.1 hj
    rw [fm_of hj]
    cases hh : hasB g.wide g.high j
    · rw [h2 j hj hh, z0]; exact f0
    · exact h1 j hj hh
  unfold fieldsI
  rw [Bool.and_eq_true, Bool.and_eq_true]
  refine ⟨⟨key amount g.c (fun j hj hh => ?_) (fun j hj hh => (h.out j hj hh).1), key plain g.g (fun j hj hh => ?_) (fun j hj hh => (h.out j hj hh).2.1)⟩, key plain g.h (fun j hj hh => ?_) (fun j hj hh => (h.out j hj hh).2.2)⟩
  · obtain ⟨⟨c, hc, e⟩, _, _⟩ := h.cell j hj hh
    rw [e]; exact amount_q hc
  · obtain ⟨_, ⟨z, h1, h2, e⟩, _⟩ := h.cell j hj hh
    rw [e]; exact plain_q h1 (by omega)
  · obtain ⟨_, _, ⟨z, h1, h2, e⟩⟩ := h.cell j hj hh
    rw [e]; exact plain_q (by omega) h2
theorem Drawn.ok {g : G} (h : Drawn g) : okI g.m = true := by
  obtain ⟨l, hl, hs, c, hc⟩ := h.fx
  have h64 : ∀ c ∈ l, c < 64 := fun c hc => cells64 (hs c hc)
  unfold okI
  rw [Bool.and_eq_true, Bool.and_eq_true]
  refine ⟨⟨decide_eq_true ?_, h.fields⟩, ?_⟩
  · have h1 := h.wide
    have h2 := h.high
    show (2 ≤ g.wide ∧ g.wide ≤ 8) ∧ (2 ≤ g.high ∧ g.high ≤ 8)
    omega
  · unfold fixedOk
    rw [show g.m.fixed = g.fixed from rfl, hl, bitsL_less (fun c hc => cells64 hc) hs, Bool.and_eq_true]
    exact ⟨by simpa using bitsL_ne h64 hc, by decide⟩
theorem Drawn.fxr {g : G} (h : Drawn g) : g.Fx := by
  obtain ⟨l, hl, hs, _⟩ := h.fx
  unfold G.Fx
  rw [hl]
  exact bitsL_rng (fun c hc => cells64 (hs c hc))
theorem Drawn.sane {g : G} (h : Drawn g) : g.Sane := sane_of h.ok h.fxr
theorem Drawn.rng {g : G} (h : Drawn g) : g.Rng := h.sane.rng
theorem Drawn.fixCell {g : G} (h : Drawn g) {k : Nat} (hk : fixB g.fixed k = true) : k < 64 ∧ hasB g.wide g.high k = true := by
  obtain ⟨l, hl, hs, _⟩ := h.fx
  rw [hl, fixB_been (fun c hc => cells64 (hs c hc))] at hk
  exact cellsTo_iff.1 (hs k (of_decide_eq_true hk))
theorem Drawn.some {g : G} (h : Drawn g) : ∃ k, k < 64 ∧ hasB g.wide g.high k = true ∧ fixB g.fixed k = true := by
  obtain ⟨l, hl, hs, c, hc⟩ := h.fx
  obtain ⟨h1, h2⟩ := cellsTo_iff.1 (hs c hc)
  exact ⟨c, h1, h2, by rw [hl, fixB_been (fun c hc => cells64 (hs c hc))]; exact decide_eq_true hc⟩

/-! The steps of the draw. -/
theorem cell_putC (g : G) {k : Nat} (hk : k < 64) (r i : Nat) (hi : i < 195) : G.cell { g with c := upd g.c k r } i = if i = 2 + k then .float .f32 r else g.cell i := by
  unfold G.cell upd
  by_cases h1 : i < 66 ∧ 2 ≤ i
  · obtain ⟨p1, p2⟩ := h1
    have n0 : ¬ i = 0 := by omega
    have n1 : ¬ i = 1 := by omega
    simp only [n0, n1, p1, if_false, if_true]
    by_cases e : i = 2 + k
    · rw [if_pos e, if_pos (by omega)]
    · rw [if_neg e, if_neg (by omega)]
  · rw [if_neg (by omega : ¬ i = 2 + k)]
    repeat' (first | (exfalso; omega) | split | rfl)
theorem cell_putG (g : G) {k : Nat} (hk : k < 64) (r i : Nat) (hi : i < 195) : G.cell { g with g := upd g.g k r } i = if i = 66 + k then .float .f32 r else g.cell i := by
  unfold G.cell upd
  by_cases h1 : i < 130 ∧ 66 ≤ i
  · obtain ⟨p1, p2⟩ := h1
    have n0 : ¬ i = 0 := by omega
    have n1 : ¬ i = 1 := by omega
    have n2 : ¬ i < 66 := by omega
    simp only [n0, n1, n2, p1, if_false, if_true]
    by_cases e : i = 66 + k
    · rw [if_pos e, if_pos (by omega)]
    · rw [if_neg e, if_neg (by omega)]
  · rw [if_neg (by omega : ¬ i = 66 + k)]
    repeat' (first | (exfalso; omega) | split | rfl)
/-- A drawn cell as it is put in. -/
def putC (g : G) (k c : Nat) (z y : Int) (gain : Bool) : G :=
  { g with c := upd g.c k (qB c), g := if gain then upd g.g k (qB z) else g.g, h := upd g.h k (qB y) }
theorem DrTo.skip {g : G} {k : Nat} {fx : List Nat} (h : DrTo g k fx) (hh : hasB g.wide g.high k = false) : DrTo g (k + 1) fx :=
  ⟨h.wide, h.high, fun j hj hb => h.cell j (by rcases Nat.lt_or_eq_of_le (Nat.le_of_lt_succ hj) with h1 | h1; exact h1; subst h1; rw [hh] at hb; cases hb) hb,
   fun j hj => h.out j (by rcases hj with h1 | h1; exact .inl (by omega); exact .inr h1), fun c hc => by rw [cellsTo_no hh]; exact h.fixs c hc, h.fixed⟩
theorem DrTo.put {g : G} {k c : Nat} {z y : Int} {gain : Bool} {fx : List Nat} (h : DrTo g k fx) (hh : hasB g.wide g.high k = true) (hc : c ≤ 12) (hz : -32 ≤ z ∧ z ≤ 32) (hy : 8 ≤ y ∧ y ≤ 72) : DrTo (putC g k c z y gain) (k + 1) fx := by
  refine ⟨h.wide, h.high, fun j hj hb => ?_, fun j hj => ?_, fun c hc => by show c ∈ cellsTo g.wide g.high (k + 1); rw [cellsTo_yes hh]; exact List.mem_append_left _ (h.fixs c hc), h.fixed⟩
  · by_cases e : j = k
    · subst e
      unfold DrC putC upd
      simp only [if_true]
      refine ⟨⟨c, hc, rfl⟩, ?_, ⟨y, hy.1, hy.2, rfl⟩⟩
      cases gain
      · refine ⟨0, by omega, by omega, ?_⟩
        rw [qB_zero]
        exact (h.out j (.inl (Nat.le_refl _))).2.1
      · exact ⟨z, hz.1, hz.2, if_pos rfl⟩
    · obtain ⟨h1, h2, h3⟩ := h.cell j (by omega) hb
      unfold DrC putC upd
      simp only [if_neg e]
      refine ⟨h1, ?_, h3⟩
      cases gain
      · exact h2
      · simp only [if_true, if_neg e]; exact h2
  · have e : j ≠ k := by
      rintro rfl
      rcases hj with h1 | h1
      · omega
      · rw [show (putC g j c z y gain).wide = g.wide from rfl, show (putC g j c z y gain).high = g.high from rfl, hh] at h1; cases h1
    obtain ⟨h1, h2, h3⟩ := h.out j (by rcases hj with h1 | h1; exact .inl (by omega); exact .inr h1)
    unfold putC upd
    refine ⟨?_, ?_, ?_⟩
    · simp only [if_neg e]; exact h1
    · cases gain
      · exact h2
      · simp only [if_true, if_neg e]; exact h2
    · simp only [if_neg e]; exact h3
theorem DrTo.fix {g : G} {k : Nat} {fx : List Nat} (h : DrTo g (k + 1) fx) (hh : hasB g.wide g.high k = true) : DrTo { g with fixed := orBit g.fixed k } (k + 1) (fx ++ [k]) := by
  refine ⟨h.wide, h.high, h.cell, h.out, fun c hc => ?_, ?_⟩
  · rcases List.mem_append.1 hc with h1 | h1
    · exact h.fixs c h1
    · rw [List.mem_singleton.1 h1]
      exact cellsTo_iff.2 ⟨by omega, hh⟩
  · show orBit g.fixed k = _
    rw [bitsL_snoc, h.fixed]
theorem DrTo.lt {g : G} {k : Nat} {fx : List Nat} (h : DrTo g k fx) (hk : k ≤ 64) : ∀ c ∈ fx, c < 64 := fun c hc => by have := cellsTo_lt (h.fixs c hc); omega
theorem DrTo.done {g : G} {fx : List Nat} (h : DrTo g 64 fx) (hf : g.fixed ≠ 0) : Drawn g := by
  refine ⟨h.wide, h.high, h.cell, fun j _ hj => h.out j (.inr hj), fx, h.fixed, h.fixs, ?_⟩
  cases fx with
  | nil => exact absurd h.fixed hf
  | cons c r => exact ⟨c, by simp⟩
theorem DrTo.done1 {g : G} {fx : List Nat} (h : DrTo g 64 fx) : Drawn { g with fixed := 1 } := by
  have h1 := h.wide
  have h2 := h.high
  refine ⟨h.wide, h.high, h.cell, fun j _ hj => h.out j (.inr hj), [0], (by decide +kernel : (1 : Int) = bitsL [0]), fun c hc => ?_, 0, by simp⟩
  rw [List.mem_singleton.1 hc]
  refine cellsTo_iff.2 ⟨by omega, ?_⟩
  show hasB g.wide g.high 0 = true
  unfold hasB
  rw [Bool.and_eq_true]
  exact ⟨decide_eq_true (by omega), decide_eq_true (by omega)⟩
end Go.Proofs.Ytfcphfdfpjmgiaa

namespace Go.Proofs.Ytfcphfdfpjmgiaa
open Go.RowKit

/-- So many quarters. -/
def quart (z : Int) : Rat := (z : Rat) / 4
theorem qval_all : ∀ n : Fin 105, valF (some (qB ((n.val : Int) - 32))) = some (((n.val : Int) - 32) * (2 ^ 147 : Nat)) := by decide +kernel
theorem rv_q {z : Int} (h1 : -32 ≤ z) (h2 : z ≤ 72) : RV (fb (qB z)) (quart z) := by
  have h : valF (some (qB ((((z + 32).toNat : Nat) : Int) - 32))) = some (((((z + 32).toNat : Nat) : Int) - 32) * (2 ^ 147 : Nat)) := qval_all ⟨(z + 32).toNat, by omega⟩
  rw [show (((z + 32).toNat : Nat) : Int) - 32 = z by omega] at h
  rw [(qF_eq h1 h2).2]
  refine RV.of h ?_
  rw [Rat.intCast_mul]
  have e : (((2 ^ 147 : Nat) : Int) : Rat) * 4 = uQ := by decide +kernel
  unfold quart
  rw [← e]
  generalize (((2 ^ 147 : Nat) : Int) : Rat) = X
  grind
theorem rv_zero : RV (some 0) 0 := ⟨0, val_zero, by rw [Rat.zero_mul]; rfl⟩

/-! Joints. -/
def jInt (a c : Nat) : Int := (valF (joint (some (qB a)) (some (qB c)))).getD 0
theorem jval_all : ∀ a : Fin 13, ∀ c : Fin 13, valF (joint (some (qB a.val)) (some (qB c.val))) = some (jInt a.val c.val) ∧ 0 ≤ jInt a.val c.val ∧ jInt a.val c.val ≤ 3 * (2 ^ 149 : Nat) ∧ ((a.val = 0 ∨ c.val = 0) → jInt a.val c.val = 0) ∧ (a.val ≠ 0 → c.val ≠ 0 → (2 ^ 147 : Nat) ≤ jInt a.val c.val) ∧ jInt a.val c.val = jInt c.val a.val := by decide +kernel
/-- A joint's number. -/
def jQ (a c : Nat) : Rat := (jInt a c : Rat) / uQ
theorem jQ_mul (a c : Nat) : jQ a c * uQ = (jInt a c : Rat) := Rat.div_mul_cancel (by have := uQ_pos; grind)
theorem jval {a c : Nat} (ha : a ≤ 12) (hc : c ≤ 12) : valF (joint (some (qB a)) (some (qB c))) = some (jInt a c) ∧ 0 ≤ jInt a c ∧ jInt a c ≤ 3 * (2 ^ 149 : Nat) ∧ ((a = 0 ∨ c = 0) → jInt a c = 0) ∧ (a ≠ 0 → c ≠ 0 → (2 ^ 147 : Nat) ≤ jInt a c) ∧ jInt a c = jInt c a :=
  jval_all ⟨a, by omega⟩ ⟨c, by omega⟩
theorem rv_joint {a c : Nat} (ha : a ≤ 12) (hc : c ≤ 12) : RV (joint (fb (qB a)) (fb (qB c))) (jQ a c) := by
  rw [(qF_eq (z := a) (by omega) (by omega)).2, (qF_eq (z := c) (by omega) (by omega)).2]
  exact RV.of (jval ha hc).1 (jQ_mul a c)
theorem jQ_nonneg {a c : Nat} (ha : a ≤ 12) (hc : c ≤ 12) : 0 ≤ jQ a c := by
  refine (q_le (v := 0) (by rw [Rat.zero_mul]; rfl) (jQ_mul a c)).2 (jval ha hc).2.1
theorem jQ_le {a c : Nat} (ha : a ≤ 12) (hc : c ≤ 12) : jQ a c ≤ 3 := by
  refine (q_le (w := 3 * (2 ^ 149 : Nat)) (jQ_mul a c) ?_).2 (jval ha hc).2.2.1
  decide +kernel
theorem jQ_pos {a c : Nat} (ha : a ≤ 12) (hc : c ≤ 12) (h1 : a ≠ 0) (h2 : c ≠ 0) : 1 / 4 ≤ jQ a c := by
  refine (q_le (v := (2 ^ 147 : Nat)) ?_ (jQ_mul a c)).2 ((jval ha hc).2.2.2.2.1 h1 h2)
  decide +kernel
theorem jQ_zero {a c : Nat} (ha : a ≤ 12) (hc : c ≤ 12) (h : a = 0 ∨ c = 0) : jQ a c = 0 := by
  refine (q_eq (w := 0) (jQ_mul a c) (by rw [Rat.zero_mul]; rfl)).2 ((jval ha hc).2.2.2.1 h)

/-! What a drawn ground holds, as numbers. -/
/-- The numbers of a drawn ground. -/
structure Nums (m : M) where
  c : Nat → Nat
  g : Nat → Int
  h : Nat → Int
  cr : ∀ k, c k ≤ 12
  gr : ∀ k, -32 ≤ g k ∧ g k ≤ 32
  hr : ∀ k, 8 ≤ h k ∧ h k ≤ 72
  cv : ∀ k, k < 64 → hasB m.wide m.high k = true → m.c k = fb (qB (c k))
  gv : ∀ k, k < 64 → hasB m.wide m.high k = true → m.g k = fb (qB (g k))
  hv : ∀ k, k < 64 → hasB m.wide m.high k = true → m.h k = fb (qB (h k))
theorem Drawn.nums {g : G} (d : Drawn g) : Nonempty (Nums g.m) := by
  have h : ∀ k : Nat, ∃ t : Nat × Int × Int, t.1 ≤ 12 ∧ (-32 ≤ t.2.1 ∧ t.2.1 ≤ 32) ∧ (8 ≤ t.2.2 ∧ t.2.2 ≤ 72) ∧ (k < 64 → hasB g.wide g.high k = true → g.c k = qB t.1 ∧ g.g k = qB t.2.1 ∧ g.h k = qB t.2.2) := by
    intro k
    by_cases hk : k < 64 ∧ hasB g.wide g.high k = true
    · obtain ⟨⟨c, h1, h2⟩, ⟨z, h3, h4, h5⟩, ⟨y, h6, h7, h8⟩⟩ := d.cell k hk.1 hk.2
      exact ⟨(c, z, y), h1, ⟨h3, h4⟩, ⟨h6, h7⟩, fun _ _ => ⟨h2, h5, h8⟩⟩
    · exact ⟨(0, 0, 8), by decide, by decide, by decide, fun a b => absurd ⟨a, b⟩ hk⟩
  refine ⟨⟨fun k => (Classical.choose (h k)).1, fun k => (Classical.choose (h k)).2.1, fun k => (Classical.choose (h k)).2.2, fun k => (Classical.choose_spec (h k)).1, fun k => (Classical.choose_spec (h k)).2.1, fun k => (Classical.choose_spec (h k)).2.2.1, ?_, ?_, ?_⟩⟩
  · intro k hk hh
    rw [← ((Classical.choose_spec (h k)).2.2.2 hk hh).1]; exact fm_of hk
  · intro k hk hh
    rw [← ((Classical.choose_spec (h k)).2.2.2 hk hh).2.1]; exact fm_of hk
  · intro k hk hh
    rw [← ((Classical.choose_spec (h k)).2.2.2 hk hh).2.2]; exact fm_of hk
/-- A cell of a ground. -/
def IsCell (m : M) (k : Nat) : Prop := k < 64 ∧ hasB m.wide m.high k = true
theorem Nums.rvh {m : M} (N : Nums m) {k : Nat} (hk : IsCell m k) : RV (m.h k) (quart (N.h k)) := by
  have := N.hr k
  rw [N.hv k hk.1 hk.2]; exact rv_q (by omega) (by omega)
theorem Nums.rvg {m : M} (N : Nums m) {k : Nat} (hk : IsCell m k) : RV (m.g k) (quart (N.g k)) := by
  have := N.gr k
  rw [N.gv k hk.1 hk.2]; exact rv_q (by omega) (by omega)
theorem Nums.rvj {m : M} (N : Nums m) {k n : Nat} (hk : IsCell m k) (hn : IsCell m n) : RV (joint (m.c k) (m.c n)) (jQ (N.c k) (N.c n)) := by
  rw [N.cv k hk.1 hk.2, N.cv n hn.1 hn.2]; exact rv_joint (N.cr k) (N.cr n)
theorem quart_le {a b : Int} (h : a ≤ b) : quart a ≤ quart b := by
  unfold quart
  have := Rat.intCast_le_intCast.2 h
  grind
theorem quart_sub (a b : Int) : quart a - quart b = quart (a - b) := by
  unfold quart
  rw [Rat.intCast_sub]; grind
/-- The difference of two heads is exact. -/
theorem qsub_all : ∀ n : Fin 129, valF (some (qB ((n.val : Int) - 64))) = some (((n.val : Int) - 64) * (2 ^ 147 : Nat)) := by decide +kernel
theorem rv_quart {z : Int} (h1 : -64 ≤ z) (h2 : z ≤ 64) : ∃ x, RV x (quart z) := by
  have h : valF (some (qB ((((z + 64).toNat : Nat) : Int) - 64))) = some (((((z + 64).toNat : Nat) : Int) - 64) * (2 ^ 147 : Nat)) := qsub_all ⟨(z + 64).toNat, by omega⟩
  rw [show (((z + 64).toNat : Nat) : Int) - 64 = z by omega] at h
  refine ⟨_, RV.of h ?_⟩
  rw [Rat.intCast_mul]
  have e : (((2 ^ 147 : Nat) : Int) : Rat) * 4 = uQ := by decide +kernel
  unfold quart
  rw [← e]
  generalize (((2 ^ 147 : Nat) : Int) : Rat) = X
  grind
theorem Nums.rvd {m : M} (N : Nums m) {k n : Nat} (hk : IsCell m k) (hn : IsCell m n) : RV (fsub (m.h k) (m.h n)) (quart (N.h k - N.h n)) := by
  have a1 := N.hr k
  have a2 := N.hr n
  have b1 := quart_le (show N.h k - N.h n ≤ 64 by omega)
  have b2 := quart_le (show -64 ≤ N.h k - N.h n by omega)
  have e1 : quart 64 = 16 := by decide +kernel
  have e2 : quart (-64) = -16 := by decide +kernel
  obtain ⟨r, h1, _, h3, h4⟩ := (N.rvh hk).sub (N.rvh hn) (by rw [quart_sub]; grind) (by rw [quart_sub]; grind)
  rw [quart_sub] at h3 h4
  obtain ⟨x, hx⟩ := rv_quart (z := N.h k - N.h n) (by omega) (by omega)
  have l1 := h3 x _ hx Rat.le_refl
  have l2 := h4 x _ hx Rat.le_refl
  have : r = quart (N.h k - N.h n) := Rat.le_antisymm l1 l2
  rw [← this]; exact h1
/-- A flow's number. -/
theorem Nums.rvf {m : M} (N : Nums m) {k n s : Nat} (hk : IsCell m k) (hn : IsCell m n) (hb : beside m.wide m.high k s = n) :
    ∃ r, RV (flow m k s) r ∧ Near r (jQ (N.c k) (N.c n) * quart (N.h k - N.h n)) ∧ (0 ≤ N.h n - N.h k → r ≤ 0) ∧ (0 ≤ N.h k - N.h n → 0 ≤ r) := by
  have hj0 := jQ_nonneg (N.cr k) (N.cr n)
  have hj1 := jQ_le (N.cr k) (N.cr n)
  have a1 := N.hr k
  have a2 := N.hr n
  have b1 := quart_le (show N.h k - N.h n ≤ 64 by omega)
  have b2 := quart_le (show -64 ≤ N.h k - N.h n by omega)
  have e1 : quart 64 = 16 := by decide +kernel
  have e2 : quart (-64) = -16 := by decide +kernel
  have e3 : quart 0 = 0 := by decide +kernel
  rw [e1] at b1
  rw [e2] at b2
  have hm1 : jQ (N.c k) (N.c n) * quart (N.h k - N.h n) ≤ 48 := by
    have := Rat.mul_le_mul_of_nonneg_left b1 hj0
    grind
  have hm2 : -(jQ (N.c k) (N.c n) * quart (N.h k - N.h n)) ≤ 48 := by
    have := Rat.mul_le_mul_of_nonneg_left b2 hj0
    grind
  obtain ⟨r, h1, h2, h3, h4⟩ := (N.rvj hk hn).mul (N.rvd hk hn) (by grind) (by grind)
  refine ⟨r, ?_, h2, fun h => ?_, fun h => ?_⟩
  · unfold flow
    rw [if_neg (by omega), hb, Int.toNat_natCast]
    exact h1
  · refine h3 _ _ rv_zero ?_
    have := quart_le (show N.h k - N.h n ≤ 0 by omega)
    rw [e3] at this
    have := Rat.mul_le_mul_of_nonneg_left this hj0
    grind
  · refine h4 _ _ rv_zero ?_
    have := quart_le h
    rw [e3] at this
    exact Rat.mul_nonneg hj0 this
theorem beside_cell {m : M} (h : sized m) {k s n : Nat} (hk : k < 64) (hb : beside m.wide m.high k s = n) : IsCell m n := beside_has hk h.1.2 h.2.2 hb
end Go.Proofs.Ytfcphfdfpjmgiaa

namespace Go.Proofs.Ytfcphfdfpjmgiaa
open Go.RowKit

/-- A row of bytes that a slice shows. -/
def BytesAt (w : World) (v : Value) (n : Nat) : Prop :=
  ∃ a cap, v = .slice a n cap ∧ ∀ j : Nat, j < n → ∃ g o x, a = some ⟨g, o, none⟩ ∧ w.cell? ⟨g, o + j, none⟩ = some (.int .u8 x) ∧ 0 ≤ x ∧ x ≤ 255
theorem BytesAt.far {w w' : World} {v : Value} {n : Nat} (h : BytesAt w v n) (hb : Below w.heap.size w w') : BytesAt w' v n := by
  obtain ⟨a, cap, e, hL⟩ := h
  refine ⟨a, cap, e, fun j hj => ?_⟩
  obtain ⟨g, o, x, h1, h2, h3⟩ := hL j hj
  exact ⟨g, o, x, h1, cell_below hb h2, h3⟩
/-- A source of choices. -/
def SrcAt (w : World) (b : Nat) (v : Value) (k : Nat) : Prop := ∃ (at' : Nat) (seed : Int), at' ≤ k ∧ Blk w b #[v, .int .i64 at', .int .u64 seed] 157

/-- The last eight digits. -/
def andN (x : Int) : Nat := ((BitVec.ofInt 64 x) &&& (BitVec.ofInt 64 255)).toNat
theorem andN_le (x : Int) : andN x ≤ 255 := by
  unfold andN
  rw [BitVec.toNat_and]
  exact Nat.le_trans Nat.and_le_right (by decide)
theorem and255 (x : Int) : bits BinOp.and IntKind.u64 x 255 = ((andN x : Nat) : Int) := by
  have h := andN_le x
  show IntKind.u64.wrap ((andN x : Nat) : Int) = _
  rw [IntKind.wrap_u64]
  omega
theorem andN_wrap (x : Int) : IntKind.i64.wrap ((andN x : Nat) : Int) = ((andN x : Nat) : Int) := by
  have h := andN_le x
  generalize andN x = m at h
  simp only [IntKind.wrap, IntKind.bits, IntKind.signed]
  simp
  omega
theorem sizeInt : (Try.prog.info? 3).map (·.size) = some 1 := by kernel_rfl
theorem sizeU64 : (Try.prog.info? 28).map (·.size) = some 1 := by kernel_rfl

set_option maxRecDepth 100000 in
set_option maxHeartbeats 1600000 in
theorem next_any (b n k : Nat) (v : Value) (w : World) (hn : n ≤ 4096) (hk : k ≤ 1000000) (hv : BytesAt w v n) (hs : SrcAt w b v k) :
    Calls Try.prog 188 #[.pointer (some ⟨b, 0, none⟩)] w fun e w' => ∃ z : Nat, e = .returned (.int .i64 z) ∧ z ≤ 255 ∧ SrcAt w' b v (k + 1) ∧ w.grownBy w' (some b) := by
  obtain ⟨p, seed, hp, hb⟩ := hs
  obtain ⟨a, cap, rfl, hL⟩ := hv
  have HB := Lib.hid hb
  have HL := Lib.hid hL
  have c0 : w.cell? ⟨b, 0, none⟩ = some (.slice a n cap) := hb.at rfl
  have c1 : w.cell? ⟨b, 1, none⟩ = some (.int .i64 p) := hb.at rfl
  clear hb hL
  by_cases hlt : p < n
  · obtain ⟨g, o, x, rfl, hx, x0, x1⟩ := HL.out p hlt
    have j1 : (p : Int) < (n : Int) := by omega
    go_enter Try.func188, Try.ntmps188
    go_wp2_with fail
    go_quiet (fail)
    go_wp2_with fail
    go_quiet (fail)
    go_wp2_with ((with_reducible refine wpList_gateS ?_); refine wpList_put1 (i := 1) (v := .int .i64 _) sizeInt (HB.out.drewN _) (by simp) rfl rfl rfl rfl ?_)
    intro w3 s3 b3 k3
    have K3 := Lib.hid (grown_trans (grown_drewN w _ _) k3)
    have B3 : Blk w3 b #[.slice (some ⟨g, o, none⟩) n cap, .int .i64 ((p : Int) + 1), .int .u64 seed] 157 := b3
    have d2 : w3.cell? ⟨b, 2, none⟩ = some (.int .u64 seed) := B3.at rfl
    clear c0 c1 hx k3 b3
    go_wp2_with ((with_reducible refine wpList_gateS ?_); refine wpList_put1 (i := 2) (v := .int .u64 _) sizeU64 B3 (by simp) rfl rfl rfl rfl ?_)
    intro w4 s4 b4 k4
    have K4 := Lib.hid (grown_trans K3.out k4)
    have B4 := Lib.hid b4
    have e0 : w4.cell? ⟨b, 0, none⟩ = some (.slice (some ⟨g, o, none⟩) n cap) := b4.at rfl
    have e1 : w4.cell? ⟨b, 1, none⟩ = some (.int .i64 ((p : Int) + 1)) := b4.at rfl
    have j2 : (p : Int) + 1 ≤ (n : Int) := by omega
    clear k4 b4 d2 B3
    go_wp2_with fail
    go_quiet (fail)
    go_wp2_with fail
    go_ret
    obtain ⟨z, rfl⟩ : ∃ z : Nat, x = z := ⟨x.toNat, by omega⟩
    exact ⟨z, rfl, by omega, ⟨p + 1, _, by omega, B4.out.drewN _⟩, grown_trans K4.out (grown_drewN _ _ _)⟩
  · have j1 : ¬ (p : Int) < (n : Int) := by omega
    go_enter Try.func188, Try.ntmps188
    go_wp2_with fail
    go_quiet (fail)
    go_wp2_with ((with_reducible refine wpList_gateS ?_); refine wpList_put1 (i := 1) (v := .int .i64 _) sizeInt (HB.out.drewN _) (by simp) rfl rfl rfl rfl ?_)
    intro w3 s3 b3 k3
    have K3 := Lib.hid (grown_trans (grown_drewN w _ _) k3)
    have B3 : Blk w3 b #[.slice a n cap, .int .i64 ((p : Int) + 1), .int .u64 seed] 157 := b3
    have d2 : w3.cell? ⟨b, 2, none⟩ = some (.int .u64 seed) := B3.at rfl
    clear c0 c1 k3 b3
    go_wp2_with ((with_reducible refine wpList_gateS ?_); refine wpList_put1 (i := 2) (v := .int .u64 _) sizeU64 B3 (by simp) rfl rfl rfl rfl ?_)
    intro w4 s4 b4 k4
    have K4 := Lib.hid (grown_trans K3.out k4)
    have B4 := Lib.hid b4
    have e0 : w4.cell? ⟨b, 0, none⟩ = some (.slice a n cap) := b4.at rfl
    have e1 : w4.cell? ⟨b, 1, none⟩ = some (.int .i64 ((p : Int) + 1)) := b4.at rfl
    have j2 : ¬ (p : Int) + 1 ≤ (n : Int) := by omega
    obtain ⟨sd, b5⟩ : ∃ sd, Blk w4 b #[.slice a n cap, .int .i64 ((p : Int) + 1), .int .u64 sd] 157 := ⟨_, b4⟩
    have e2 : w4.cell? ⟨b, 2, none⟩ = some (.int .u64 sd) := b5.at rfl
    have B5 := Lib.hid b5
    have ha := and255
    have hw := andN_wrap
    clear k4 B3 d2 b4 b5 B4
    go_wp2_with fail
    go_quiet (fail)
    go_wp2_with fail
    go_ret
    exact ⟨andN _, rfl, andN_le _, ⟨p + 1, sd, by omega, B5.out.drewN _⟩, grown_trans K4.out (grown_drewN _ _ _)⟩
end Go.Proofs.Ytfcphfdfpjmgiaa

namespace Go.Proofs.Ytfcphfdfpjmgiaa
open Go.RowKit

theorem grown_below' {B b : Nat} {a w w' : World} (h : Below B a w) (hg : w.grownBy w' (some b)) (hB : B ≤ w.heap.size) (hb : B ≤ b) : Below B a w' := below_grown h hg hB hb

set_option maxRecDepth 100000 in
set_option maxHeartbeats 1600000 in
theorem pick_any (b n k m : Nat) (v : Value) (w : World) (hn : n ≤ 4096) (hk : k ≤ 100000) (hm : 2 ≤ m) (hm2 : m ≤ 65536) (hv : ∀ w', w.grownBy w' (some b) → BytesAt w' v n) (hs : SrcAt w b v k) :
    Calls Try.prog 142 #[.pointer (some ⟨b, 0, none⟩), .int .i64 m] w fun e w' => ∃ z : Nat, e = .returned (.int .i64 z) ∧ z < m ∧ SrcAt w' b v (k + 2) ∧ w.grownBy w' (some b) := by
  have m1 : ¬ (m : Int) ≤ 1 := by omega
  have m0 : ¬ (m : Int) = 0 := by omega
  by_cases h2 : 200 < m
  · have h3 : (200 : Int) < (m : Int) := by omega
    go_enter Try.func142, Try.ntmps142
    go_wp2_with fail
    refine (next_any b n k v w hn (by omega) (hv w (grown_refl _ _)) hs).mono ?_
    rintro e w1 ⟨x, rfl, hx, hs1, hg1⟩
    have HG1 := Lib.hid hg1
    have hx' : (x : Int) ≤ 255 := by omega
    clear hs
    go_wp2_with fail
    refine (next_any b n (k + 1) v w1 hn (by omega) (hv w1 HG1.out) hs1).mono ?_
    rintro e w2 ⟨y, rfl, hy, hs2, hg2⟩
    have HG2 := Lib.hid (grown_trans HG1.out hg2)
    have hy' : (y : Int) ≤ 255 := by omega
    clear hg1 hg2 hs1
    go_wp2_with fail
    go_ret
    refine ⟨(x * 256 + y) % m, ?_, Nat.mod_lt _ (by omega), hs2, HG2.out⟩
    exact congrArg (fun z : Int => Ending.returned (.int .i64 z)) (by simp)
  · have h3 : ¬ (200 : Int) < (m : Int) := by omega
    go_enter Try.func142, Try.ntmps142
    go_wp2_with fail
    refine (next_any b n k v w hn (by omega) (hv w (grown_refl _ _)) hs).mono ?_
    rintro e w1 ⟨x, rfl, hx, hs1, hg1⟩
    have HG1 := Lib.hid hg1
    have hx' : (x : Int) ≤ 255 := by omega
    clear hs hg1
    go_wp2_with fail
    go_ret
    refine ⟨x % m, ?_, Nat.mod_lt _ (by omega), ?_, HG1.out⟩
    · exact congrArg (fun z : Int => Ending.returned (.int .i64 z)) (by simp)
    · obtain ⟨p, sd, hp, hb⟩ := hs1
      exact ⟨p, sd, by omega, hb⟩

theorem BytesAt.slice {w : World} {v : Value} {n : Nat} (h : BytesAt w v n) : ∃ a k cap, v = .slice a k cap := by obtain ⟨a, cap, e, _⟩ := h; exact ⟨a, n, cap, e⟩

set_option maxHeartbeats 400000 in
theorem l00From_any (v : Value) (w : World) (h1 : ∃ a k cap, v = .slice a k cap) : Calls Try.prog 91 #[v] w fun e w' => ∃ b, e = .returned (.pointer (some ⟨b, 0, none⟩)) ∧ w.heap.size ≤ b ∧ SrcAt w' b v 0 ∧ Below w.heap.size w w' := by
  obtain ⟨a, k, cap, rfl⟩ := h1
  go_enter Try.func91, Try.ntmps91
  go_wp2_with (with_reducible refine wpList_box rfl ?_)
  intro b w1 h1 h2 h3 h4
  have HS := Lib.hid h3
  have HB := Lib.hid h4
  clear h3 h4
  go_wp2_with fail
  go_ret
  exact ⟨b, rfl, h1, ⟨0, 0, Nat.le_refl _, HS.out⟩, HB.out⟩
end Go.Proofs.Ytfcphfdfpjmgiaa

namespace Go.Proofs.Ytfcphfdfpjmgiaa
open Go.RowKit

theorem SrcAt.drewN' {w : World} {b k : Nat} {v : Value} (h : SrcAt w b v k) (n : Nat) : SrcAt (w.drewN n) b v k := by obtain ⟨p', sd, h1, h2⟩ := h; exact ⟨p', sd, h1, h2.drewN _⟩
theorem SrcAt.far {w w' : World} {b k : Nat} {v : Value} (h : SrcAt w b v k) (hb : Below w.heap.size w w') : SrcAt w' b v k := by obtain ⟨p', sd, h1, h2⟩ := h; exact ⟨p', sd, h1, h2.later hb⟩
theorem SrcAt.grown' {w w' : World} {b k r : Nat} {v : Value} (h : SrcAt w b v k) (hg : w.grownBy w' (some r)) (hne : b ≠ r) : SrcAt w' b v k := by obtain ⟨p', sd, h1, h2⟩ := h; exact ⟨p', sd, h1, h2.grown hg hne⟩
theorem grown_far {w w1 w2 : World} {b B : Nat} (h : w.grownBy w1 (some b)) (h2 : w1.grownBy w2 (some B)) (hB : w.heap.size ≤ B) : w.grownBy w2 (some b) :=
  ⟨h2.os.trans h.os, h2.tape.trans h.tape, h2.output.trans h.output, Nat.le_trans h.size h2.size, fun k hk hne => (h2.block k (Nat.lt_of_lt_of_le hk h.size) (by simp; omega)).trans (h.block k hk hne)⟩
theorem grown_later {w w1 w2 : World} {b : Nat} (h : w.grownBy w1 (some b)) (h2 : Below w1.heap.size w1 w2) : w.grownBy w2 (some b) := grown_trans h (grown_below h2)

/-- A source over bytes, as a call finds it. -/
structure SrcIn (w0 w : World) (b n : Nat) (v : Value) : Prop where
  hn : n ≤ 4096
  bytes : BytesAt w0 v n
  below : Below w0.heap.size w0 w
  le : w0.heap.size ≤ b
  lt : b < w.heap.size
/-- What stands in the course of a draw: the source, so far used; what is new. -/
structure StAt (w : World) (b : Nat) (v : Value) (q : Nat) (wr : World) : Prop where
  src : SrcAt wr b v q
  grow : w.grownBy wr (some b)
theorem StAt.drewN {w wr : World} {b q : Nat} {v : Value} (h : StAt w b v q wr) (n : Nat) : StAt w b v q (wr.drewN n) := ⟨h.src.drewN' n, grown_trans h.grow (grown_drewN _ _ _)⟩
theorem StAt.far {w wr w' : World} {b q : Nat} {v : Value} (h : StAt w b v q wr) (hb : Below wr.heap.size wr w') : StAt w b v q w' := ⟨h.src.far hb, grown_later h.grow hb⟩
theorem StAt.other {w wr w' : World} {b q B : Nat} {v : Value} (h : StAt w b v q wr) (hg : wr.grownBy w' (some B)) (hB : w.heap.size ≤ B) (hb : b < w.heap.size) : StAt w b v q w' := ⟨h.src.grown' hg (by omega), grown_far h.grow hg hB⟩
theorem pickS {w0 w wr : World} {b n q m : Nat} {v : Value} (hs : SrcIn w0 w b n v) (h : StAt w b v q wr) (hq : q ≤ 100000) (hm : 2 ≤ m) (hm2 : m ≤ 65536) :
    Calls Try.prog 142 #[.pointer (some ⟨b, 0, none⟩), .int .i64 m] wr fun e w' => ∃ z : Nat, e = .returned (.int .i64 z) ∧ z < m ∧ StAt w b v (q + 2) w' ∧ wr.grownBy w' (some b) :=
  (pick_any b n q m v wr hs.hn hq hm hm2 (fun _ hg => hs.bytes.far (below_grown (below_grown hs.below h.grow hs.below.size hs.le) hg (Nat.le_trans hs.below.size h.grow.size) hs.le)) h.src).mono fun _ _ ⟨z, h1, h2, h3, h4⟩ => ⟨z, h1, h2, ⟨h3, grown_trans h.grow h4⟩, h4⟩
set_option maxRecDepth 100000 in
set_option maxHeartbeats 800000 in
theorem oneS {w0 w wr : World} {b n q m : Nat} {v : Value} (hs : SrcIn w0 w b n v) (h : StAt w b v q wr) (hq : q ≤ 100000) (hm : 2 ≤ m) (hm2 : m ≤ 65536) :
    Calls Try.prog 174 #[.pointer (some ⟨b, 0, none⟩), .int .i64 m] wr fun e w' => ∃ z : Bool, e = .returned (.bool z) ∧ StAt w b v (q + 2) w' ∧ wr.grownBy w' (some b) := by
  have HS := Lib.hid hs
  have HT := Lib.hid h
  clear hs h
  go_enter Try.func174, Try.ntmps174
  go_wp2_with fail
  refine (pickS HS.out HT.out hq hm hm2).mono ?_
  rintro e w1 ⟨z, rfl, hz, hst, hg⟩
  have HST := Lib.hid hst
  have HG := Lib.hid hg
  clear hst hg
  go_wp2_with fail
  go_ret
  exact ⟨_, rfl, HST.out, HG.out⟩
theorem fb_bits {r b : Nat} (h : fb r = some b) : r = b := by
  rcases fbOf_cases Ieee.single r with ⟨e, _⟩ | ⟨e, _⟩
  · have : fb r = none := e
    rw [h] at this; cases this
  · have : fb r = some r := e
    rw [h] at this; cases this; rfl
set_option maxRecDepth 100000 in
set_option maxHeartbeats 800000 in
theorem fewS {w0 w wr : World} {b n q : Nat} {v : Value} (hs : SrcIn w0 w b n v) (h : StAt w b v q wr) (hq : q ≤ 100000) :
    Calls Try.prog 175 #[.pointer (some ⟨b, 0, none⟩)] wr fun e w' => ∃ z : Int, e = .returned (.float .f32 (qB z)) ∧ (-32 ≤ z ∧ z ≤ 32) ∧ StAt w b v (q + 2) w' ∧ wr.grownBy w' (some b) := by
  have HS := Lib.hid hs
  have HT := Lib.hid h
  clear hs h
  go_enter Try.func175, Try.ntmps175
  go_wp2_with fail
  refine (pickS HS.out HT.out hq (m := 65) (by omega) (by omega)).mono ?_
  rintro e w1 ⟨z, rfl, hz, hst, hg⟩
  have HST := Lib.hid hst
  have HG := Lib.hid hg
  have hz1 : (z : Int) < 65 := by omega
  clear hst hg
  go_wp2_with (first | ((with_reducible refine wpList_gate ?_); refine wpList_arith _ _ rfl rfl rfl ?_; intro r n hr))
  have HR : Hid (r = qB ((z : Int) - 32)) := by
    have h1 : Is r (qF ((z : Int) - 32)) := hr.op (Is.ofI _) rfl
    exact fb_bits (h1.out.trans (qF_eq (by omega) (by omega)).1)
  clear hr
  go_ret
  exact ⟨(z : Int) - 32, by rw [HR.out]; rfl, by omega, HST.out.drewN _, grown_trans HG.out (grown_drewN _ _ _)⟩

theorem buildG (W H : Int) : (Try.zeroCells30.setIfInBounds 0 (.int .i8 W)).setIfInBounds 1 (.int .i8 H) = arrG { G0 with wide := W, high := H } := by kernel_rfl

theorem upd_upd {α : Type} (f : Nat → α) (k : Nat) (a b : α) : upd (upd f k a) k b = upd f k b := by
  funext i
  unfold upd
  by_cases h : i = k
  · simp [h]
  · simp [h]
theorem head_q {z : Int} (h1 : -32 ≤ z) (h2 : z ≤ 32) : fadd (some 1092616192) (qF z) = some (qB (z + 40)) := by
  have h : fadd (some 1092616192) (qF ((((z + 32).toNat : Nat) : Int) - 32)) = some (qB ((((z + 32).toNat : Nat) : Int) + 8)) := head_all ⟨(z + 32).toNat, by omega⟩
  rw [show (((z + 32).toNat : Nat) : Int) - 32 = z by omega, show (((z + 32).toNat : Nat) : Int) + 8 = z + 40 by omega] at h
  exact h
/-- The loop's state. -/
def DrRel (w : World) (b : Nat) (v : Value) (q0 B C : Nat) (v4 : Value) (wr : World) : Prop :=
  ∃ (k q : Nat) (g : G) (fx : List Nat), k ≤ 64 ∧ v4 = .int .i64 k ∧ DrTo g k fx ∧ Blk wr B (arrG g) 30 ∧ Blk wr C (arrG G0) 30 ∧ StAt w b v q wr ∧ q ≤ q0 + 12 * k
def RetDr (w : World) (b : Nat) (v : Value) (q0 : Nat) (e : Ending) (w' : World) : Prop :=
  ∃ g q, e = .returned (.agg (arrG g)) ∧ Drawn g ∧ StAt w b v q w' ∧ q ≤ q0 + 1000
theorem DrTo.start {W H : Int} (hW : 2 ≤ W ∧ W ≤ 4) (hH : 2 ≤ H ∧ H ≤ 4) : DrTo { G0 with wide := W, high := H } 0 [] :=
  ⟨hW, hH, fun j hj => absurd hj (by omega), fun j _ => ⟨rfl, rfl, rfl⟩, fun c hc => absurd hc (by simp), rfl⟩

set_option maxRecDepth 100000 in
set_option maxHeartbeats 4000000 in
theorem l01Drawn_any {w0 w : World} {b n q0 : Nat} {v : Value} (hs : SrcIn w0 w b n v) (hq : q0 ≤ 10000) (h : StAt w b v q0 w) :
    Calls Try.prog 90 #[.pointer (some ⟨b, 0, none⟩)] w (RetDr w b v q0) := by
  have HS := Lib.hid hs
  have HT := Lib.hid h
  have hbl := hs.lt
  clear hs h
  go_enter Try.func90, Try.ntmps90
  go_wp2_with (first | (with_reducible refine wpList_new newF ?_) | (with_reducible refine wpList_zero (zeroF _) ?_) | (with_reducible refine wpList_new newG ?_) | (with_reducible refine wpList_zero (zeroG _) ?_))
  intro C wC hC1 hC2 hC3 hC4
  have HC := Lib.hid hC3
  have HT1 := Lib.hid (HT.out.far hC4)
  clear hC3 hC4 HT
  go_wp2_with fail
  refine (pickS HS.out HT1.out (by omega) (m := 3) (by omega) (by omega)).mono ?_
  rintro e w1 ⟨z1, rfl, hz1, hst, hg⟩
  have HT2 := Lib.hid hst
  have HC2 := Lib.hid (HC.out.grown hg (by omega))
  have hs1 := hg.size
  clear hst hg
  have y1 : (z1 : Int) < 3 := by omega
  go_wp2_with fail
  refine (pickS HS.out HT2.out (by omega) (m := 3) (by omega) (by omega)).mono ?_
  rintro e w2 ⟨z2, rfl, hz2, hst, hg⟩
  have HT3 := Lib.hid hst
  have HC3 := Lib.hid (HC2.out.grown hg (by omega))
  have hs2 := hg.size
  clear hst hg
  have y2 : (z2 : Int) < 3 := by omega
  have r1 : IntKind.i8.wrap (2 + (z1 : Int)) = 2 + (z1 : Int) := by simp only [IntKind.wrap, IntKind.bits, IntKind.signed]; simp; omega
  have r2 : IntKind.i8.wrap (2 + (z2 : Int)) = 2 + (z2 : Int) := by simp only [IntKind.wrap, IntKind.bits, IntKind.signed]; simp; omega
  obtain ⟨g0, hg0⟩ : ∃ g0 : G, g0 = { G0 with wide := 2 + (z1 : Int), high := 2 + (z2 : Int) } := ⟨_, rfl⟩
  have HD : Hid (DrTo g0 0 []) := by rw [hg0]; exact DrTo.start (W := 2 + (z1 : Int)) (H := 2 + (z2 : Int)) (by omega) (by omega)
  have HBG : Hid ((Try.zeroCells30.setIfInBounds 0 (.int .i8 (2 + (z1 : Int)))).setIfInBounds 1 (.int .i8 (2 + (z2 : Int))) = arrG g0) := by
    show _ = _
    rw [hg0]
    exact buildG _ _
  clear hg0
  go_wp2_with (first | (with_reducible refine wpList_new newF ?_) | (with_reducible refine wpList_zero (zeroF _) ?_) | (with_reducible refine wpList_new newG ?_) | (with_reducible refine wpList_zero (zeroG _) ?_))
  intro B wB hB1 hB2 hB3 hB4
  have hCB : C < B := by omega
  have hwB : w.heap.size ≤ B := by omega
  have hwC : w.heap.size ≤ C := hC1
  have HT4 := Lib.hid (HT3.out.far hB4)
  have HC4 := Lib.hid (HC3.out.later hB4)
  clear hB4 HT1 HT2 HT3 HC HC2 HC3
  go_wp2_with ((with_reducible refine wpList_putG (g := g0) hB3 ?_ ?_ ?_); rfl; (exact congrArg Value.agg HBG.out))
  intro w4 s4 b4 k4
  have HB5 := Lib.hid b4
  have HT5 := Lib.hid (HT4.out.other k4 hwB hbl)
  have HC5 := Lib.hid (HC4.out.grown k4 (by omega))
  clear hB3 b4 k4 HT4 HC4 r1 r2 HBG
  go_wp2_with fail
  go_loopw [4] (fun v4 wr => DrRel w b v (q0 + 4) B C v4 wr) (fun v4 _ => 64 - (intOf v4).toNat)
  case atStart => exact ⟨0, _, g0, [], by omega, rfl, HD.out, HB5.out, HC5.out, HT5.out, by omega⟩
  case round =>
    obtain ⟨k, q, g, fx, hk, rfl, hd, hb, hc, ht, hqq⟩ := hrel
    have HD := Lib.hid hd
    have HB := Lib.hid hb
    have HC := Lib.hid hc
    have HT := Lib.hid ht
    have hr : g.Rng := by have h1 := hd.wide; have h2 := hd.high; unfold G.Rng; omega
    clear hd hb hc ht HB5 HC5 HT5
    by_cases hlt : k < 64
    · have k1 : (k : Int) < 64 := by omega
      cases hh : hasB g.wide g.high k
      · have HH := Lib.hid hh
        clear hh
        go_wp2_with (go_at_call 111; refine (l01Is_any B 0 k g _ hlt hr (GAt.of_blk HB.out)).mono ?_; rw [HH.out]; rintro e w' ⟨rfl, rfl⟩)
        go_roundw
        case rel => exact ⟨k + 1, q, g, fx, by omega, by go_num, HD.out.skip HH.out, HB.out, HC.out, HT.out, by omega⟩
        case measure => simp [intOf]; omega
      · have HH := Lib.hid hh
        clear hh
        go_wp2_with (go_at_call 111; refine (l01Is_any B 0 k g _ hlt hr (GAt.of_blk HB.out)).mono ?_; rw [HH.out]; rintro e w' ⟨rfl, rfl⟩)
        refine (pickS HS.out HT.out (by omega) (m := 12) (by omega) (by omega)).mono ?_
        rintro e x1 ⟨c, rfl, hc12, hst, hg⟩
        have HT := Lib.hid hst
        have HB := Lib.hid (HB.out.grown hg (by omega))
        have HC := Lib.hid (HC.out.grown hg (by omega))
        clear hst hg
        have c1 : (c : Int) < 12 := by omega
        go_wp2_with (first | ((with_reducible refine wpList_gate ?_); refine wpList_arith _ _ rfl rfl rfl ?_; intro r n hr) | ((with_reducible refine wpList_setG (k := 2 + k) (v := .float .f32 r) (g' := { g with c := upd g.c k r }) size32 (HB.out.drewN _) ?_ ?_ ?_ ?_ ?_ ?_ ?_); (exact by omega); (exact fun i hi => cell_putC g hlt r i hi); rfl; rfl; rfl; rfl))
        intro x2 s2 b2 k2
        have HR : r = qB ((c + 1 : Nat) : Int) := by
          have h1 : Is r (qF (1 + (c : Int))) := hr.op (Is.ofI _) rfl
          have e1 : (1 + (c : Int)) = ((c + 1 : Nat) : Int) := by omega
          rw [e1] at h1
          exact fb_bits (h1.out.trans (qF_eq (by omega) (by omega)).1)
        have HT := Lib.hid ((HT.out.drewN _).other k2 hwB hbl)
        have HC := Lib.hid ((HC.out.drewN _).grown k2 (by omega))
        have HB : Hid (Blk x2 B (arrG { g with c := upd g.c k (qB ((c + 1 : Nat) : Int)) }) 30) := by rw [← HR]; exact b2
        clear hr HR b2 k2
        go_wp2_with fail
        refine (oneS HS.out HT.out (by omega) (m := 12) (by omega) (by omega)).mono ?_
        rintro e x3 ⟨o1, rfl, hst, hg⟩
        have HT := Lib.hid hst
        have HB := Lib.hid (HB.out.grown hg (by omega))
        have HC := Lib.hid (HC.out.grown hg (by omega))
        clear hst hg
        obtain ⟨cc, hcc⟩ : ∃ cc : Nat, cc = c + 1 := ⟨_, rfl⟩
        rw [← hcc] at HB
        have hc13 : cc ≤ 12 := by omega
        clear hcc
        cases o1
        · go_wp2_with fail
          refine (oneS HS.out HT.out (by omega) (m := 4) (by omega) (by omega)).mono ?_
          rintro e x4 ⟨o2, rfl, hst, hg⟩
          have HT := Lib.hid hst
          have HB := Lib.hid (HB.out.grown hg (by omega))
          have HC := Lib.hid (HC.out.grown hg (by omega))
          clear hst hg
          cases o2
          · go_wp2_with fail
            refine (fewS HS.out HT.out (by omega)).mono ?_
            rintro e x5 ⟨y, rfl, hy, hst, hg⟩
            have HT := Lib.hid hst
            have HB := Lib.hid (HB.out.grown hg (by omega))
            have HC := Lib.hid (HC.out.grown hg (by omega))
            clear hst hg
            go_wp2_with (first | ((with_reducible refine wpList_gate ?_); refine wpList_arith _ _ rfl rfl rfl ?_; intro r n hr) | ((with_reducible refine wpList_setH (r := r) (HB.out.drewN _) hlt ?_ ?_ ?_); rfl; rfl))
            intro x6 s6 b6 k6
            have HR : r = qB (y + 40) := by
              have h1 : Is r (fadd (some 1092616192) (qF y)) := hr.op rfl (by rw [(qF_eq (by omega) (by omega)).1]; exact (qF_eq (by omega) (by omega)).2)
              exact fb_bits (h1.out.trans (head_q hy.1 hy.2))
            have HT := Lib.hid ((HT.out.drewN _).other k6 hwB hbl)
            have HC := Lib.hid ((HC.out.drewN _).grown k6 (by omega))
            have HB : Hid (Blk x6 B (arrG { g with c := upd g.c k (qB cc), h := upd g.h k (qB (y + 40)) }) 30) := by rw [← HR]; exact b6
            have HD : Hid (DrTo { g with c := upd g.c k (qB cc), h := upd g.h k (qB (y + 40)) } (k + 1) fx) := (HD.out.put (c := cc) (z := 0) (y := y + 40) (gain := false) HH.out hc13 (by omega) (by omega))
            have HH : Hid (hasB g.wide g.high k = true) := HH
            clear hr HR b6 k6
            go_wp2_with fail
            refine (oneS HS.out HT.out (by omega) (m := 5) (by omega) (by omega)).mono ?_
            rintro e x7 ⟨o3, rfl, hst, hg⟩
            have HT := Lib.hid hst
            have HB := Lib.hid (HB.out.grown hg (by omega))
            have HC := Lib.hid (HC.out.grown hg (by omega))
            clear hst hg
            cases o3
            · go_wp2_with fail
              go_roundw
              case rel => exact ⟨k + 1, _, _, fx, by omega, by go_num, HD.out, HB.out, HC.out, HT.out, by omega⟩
              case measure => simp [intOf]; omega
            · have hfx := (GAt.of_blk HB.out).fixed
              go_wp2_with ((with_reducible refine wpList_setG (k := 194) (v := .int .u64 (orBit g.fixed k)) (g' := { ({ g with c := upd g.c k (qB cc), h := upd g.h k (qB (y + 40)) } : G) with fixed := orBit g.fixed k }) sizeU HB.out ?_ ?_ ?_ ?_ ?_ ?_ ?_); (exact by omega); (exact fun i hi => cell_setFx _ _ hi); rfl; rfl; rfl; rfl)
              intro x8 s8 b8 k8
              have HB := Lib.hid b8
              have HT := Lib.hid (HT.out.other k8 hwB hbl)
              have HC := Lib.hid (HC.out.grown k8 (by omega))
              clear b8 k8 hfx
              go_wp2_with fail
              go_roundw
              case rel => exact ⟨k + 1, _, _, fx ++ [k], by omega, by go_num, HD.out.fix HH.out, HB.out, HC.out, HT.out, by omega⟩
              case measure => simp [intOf]; omega
          · go_wp2_with fail
            refine (fewS HS.out HT.out (by omega)).mono ?_
            rintro e x5 ⟨z, rfl, hz, hst, hg⟩
            have HT := Lib.hid hst
            have HB := Lib.hid (HB.out.grown hg (by omega))
            have HC := Lib.hid (HC.out.grown hg (by omega))
            clear hst hg
            go_wp2_with ((with_reducible refine wpList_setG (k := 66 + k) (v := .float .f32 (qB z)) (g' := { g with c := upd g.c k (qB cc), g := upd g.g k (qB z) }) size32 HB.out ?_ ?_ ?_ ?_ ?_ ?_ ?_); (exact by omega); (exact fun i hi => cell_putG ({ g with c := upd g.c k (qB cc) } : G) hlt _ i hi); rfl; rfl; rfl; rfl)
            intro x6 s6 b6 k6
            have HB := Lib.hid b6
            have HT := Lib.hid (HT.out.other k6 hwB hbl)
            have HC := Lib.hid (HC.out.grown k6 (by omega))
            clear b6 k6
            go_wp2_with fail
            refine (fewS HS.out HT.out (by omega)).mono ?_
            rintro e x7 ⟨y, rfl, hy, hst, hg⟩
            have HT := Lib.hid hst
            have HB := Lib.hid (HB.out.grown hg (by omega))
            have HC := Lib.hid (HC.out.grown hg (by omega))
            clear hst hg
            go_wp2_with (first | ((with_reducible refine wpList_gate ?_); refine wpList_arith _ _ rfl rfl rfl ?_; intro r n hr) | ((with_reducible refine wpList_setH (r := r) (HB.out.drewN _) hlt ?_ ?_ ?_); rfl; rfl))
            intro x8 s8 b8 k8
            have HR : r = qB (y + 40) := by
              have h1 : Is r (fadd (some 1092616192) (qF y)) := hr.op rfl (by rw [(qF_eq (by omega) (by omega)).1]; exact (qF_eq (by omega) (by omega)).2)
              exact fb_bits (h1.out.trans (head_q hy.1 hy.2))
            have HT := Lib.hid ((HT.out.drewN _).other k8 hwB hbl)
            have HC := Lib.hid ((HC.out.drewN _).grown k8 (by omega))
            have HB : Hid (Blk x8 B (arrG { g with c := upd g.c k (qB cc), g := upd g.g k (qB z), h := upd g.h k (qB (y + 40)) }) 30) := by rw [← HR]; exact b8
            have HD : Hid (DrTo { g with c := upd g.c k (qB cc), g := upd g.g k (qB z), h := upd g.h k (qB (y + 40)) } (k + 1) fx) := (HD.out.put (c := cc) (z := z) (y := y + 40) (gain := true) HH.out hc13 hz (by omega))
            have HH : Hid (hasB g.wide g.high k = true) := HH
            clear hr HR b8 k8
            go_wp2_with fail
            refine (oneS HS.out HT.out (by omega) (m := 5) (by omega) (by omega)).mono ?_
            rintro e x9 ⟨o3, rfl, hst, hg⟩
            have HT := Lib.hid hst
            have HB := Lib.hid (HB.out.grown hg (by omega))
            have HC := Lib.hid (HC.out.grown hg (by omega))
            clear hst hg
            cases o3
            · go_wp2_with fail
              go_roundw
              case rel => exact ⟨k + 1, _, _, fx, by omega, by go_num, HD.out, HB.out, HC.out, HT.out, by omega⟩
              case measure => simp [intOf]; omega
            · have hfx := (GAt.of_blk HB.out).fixed
              go_wp2_with ((with_reducible refine wpList_setG (k := 194) (v := .int .u64 (orBit g.fixed k)) (g' := { ({ g with c := upd g.c k (qB cc), g := upd g.g k (qB z), h := upd g.h k (qB (y + 40)) } : G) with fixed := orBit g.fixed k }) sizeU HB.out ?_ ?_ ?_ ?_ ?_ ?_ ?_); (exact by omega); (exact fun i hi => cell_setFx _ _ hi); rfl; rfl; rfl; rfl)
              intro x10 s10 b10 k10
              have HB := Lib.hid b10
              have HT := Lib.hid (HT.out.other k10 hwB hbl)
              have HC := Lib.hid (HC.out.grown k10 (by omega))
              clear b10 k10 hfx
              go_wp2_with fail
              go_roundw
              case rel => exact ⟨k + 1, _, _, fx ++ [k], by omega, by go_num, HD.out.fix HH.out, HB.out, HC.out, HT.out, by omega⟩
              case measure => simp [intOf]; omega
        · go_wp2_with ((with_reducible refine wpList_setG (k := 2 + k) (v := .float .f32 0) (g' := { g with c := upd (upd g.c k (qB cc)) k 0 }) size32 HB.out ?_ ?_ ?_ ?_ ?_ ?_ ?_); (exact by omega); (exact fun i hi => cell_putC ({ g with c := upd g.c k (qB cc) } : G) hlt 0 i hi); rfl; rfl; rfl; rfl)
          intro x4 s4 b4 k4
          have HB : Hid (Blk x4 B (arrG { g with c := upd g.c k (qB ((0 : Nat) : Int)) }) 30) := by rw [show qB ((0 : Nat) : Int) = 0 from qB_zero, ← upd_upd g.c k (qB cc) 0]; exact b4
          have HT := Lib.hid (HT.out.other k4 hwB hbl)
          have HC := Lib.hid (HC.out.grown k4 (by omega))
          clear b4 k4
          go_wp2_with fail
          refine (oneS HS.out HT.out (by omega) (m := 4) (by omega) (by omega)).mono ?_
          rintro e x5 ⟨o2, rfl, hst, hg⟩
          have HT := Lib.hid hst
          have HB := Lib.hid (HB.out.grown hg (by omega))
          have HC := Lib.hid (HC.out.grown hg (by omega))
          clear hst hg
          cases o2
          · go_wp2_with fail
            refine (fewS HS.out HT.out (by omega)).mono ?_
            rintro e x6 ⟨y, rfl, hy, hst, hg⟩
            have HT := Lib.hid hst
            have HB := Lib.hid (HB.out.grown hg (by omega))
            have HC := Lib.hid (HC.out.grown hg (by omega))
            clear hst hg
            go_wp2_with (first | ((with_reducible refine wpList_gate ?_); refine wpList_arith _ _ rfl rfl rfl ?_; intro r n hr) | ((with_reducible refine wpList_setH (r := r) (HB.out.drewN _) hlt ?_ ?_ ?_); rfl; rfl))
            intro x7 s7 b7 k7
            have HR : r = qB (y + 40) := by
              have h1 : Is r (fadd (some 1092616192) (qF y)) := hr.op rfl (by rw [(qF_eq (by omega) (by omega)).1]; exact (qF_eq (by omega) (by omega)).2)
              exact fb_bits (h1.out.trans (head_q hy.1 hy.2))
            have HT := Lib.hid ((HT.out.drewN _).other k7 hwB hbl)
            have HC := Lib.hid ((HC.out.drewN _).grown k7 (by omega))
            have HB : Hid (Blk x7 B (arrG { g with c := upd g.c k (qB ((0 : Nat) : Int)), h := upd g.h k (qB (y + 40)) }) 30) := by rw [← HR]; exact b7
            have HD : Hid (DrTo { g with c := upd g.c k (qB ((0 : Nat) : Int)), h := upd g.h k (qB (y + 40)) } (k + 1) fx) := (HD.out.put (c := 0) (z := 0) (y := y + 40) (gain := false) HH.out (by omega) (by omega) (by omega))
            have HH : Hid (hasB g.wide g.high k = true) := HH
            clear hr HR b7 k7
            go_wp2_with fail
            refine (oneS HS.out HT.out (by omega) (m := 5) (by omega) (by omega)).mono ?_
            rintro e x8 ⟨o3, rfl, hst, hg⟩
            have HT := Lib.hid hst
            have HB := Lib.hid (HB.out.grown hg (by omega))
            have HC := Lib.hid (HC.out.grown hg (by omega))
            clear hst hg
            cases o3
            · go_wp2_with fail
              go_roundw
              case rel => exact ⟨k + 1, _, _, fx, by omega, by go_num, HD.out, HB.out, HC.out, HT.out, by omega⟩
              case measure => simp [intOf]; omega
            · have hfx := (GAt.of_blk HB.out).fixed
              go_wp2_with ((with_reducible refine wpList_setG (k := 194) (v := .int .u64 (orBit g.fixed k)) (g' := { ({ g with c := upd g.c k (qB ((0 : Nat) : Int)), h := upd g.h k (qB (y + 40)) } : G) with fixed := orBit g.fixed k }) sizeU HB.out ?_ ?_ ?_ ?_ ?_ ?_ ?_); (exact by omega); (exact fun i hi => cell_setFx _ _ hi); rfl; rfl; rfl; rfl)
              intro x9 s9 b9 k9
              have HB := Lib.hid b9
              have HT := Lib.hid (HT.out.other k9 hwB hbl)
              have HC := Lib.hid (HC.out.grown k9 (by omega))
              clear b9 k9 hfx
              go_wp2_with fail
              go_roundw
              case rel => exact ⟨k + 1, _, _, fx ++ [k], by omega, by go_num, HD.out.fix HH.out, HB.out, HC.out, HT.out, by omega⟩
              case measure => simp [intOf]; omega
          · go_wp2_with fail
            refine (fewS HS.out HT.out (by omega)).mono ?_
            rintro e x6 ⟨z, rfl, hz, hst, hg⟩
            have HT := Lib.hid hst
            have HB := Lib.hid (HB.out.grown hg (by omega))
            have HC := Lib.hid (HC.out.grown hg (by omega))
            clear hst hg
            go_wp2_with ((with_reducible refine wpList_setG (k := 66 + k) (v := .float .f32 (qB z)) (g' := { g with c := upd g.c k (qB ((0 : Nat) : Int)), g := upd g.g k (qB z) }) size32 HB.out ?_ ?_ ?_ ?_ ?_ ?_ ?_); (exact by omega); (exact fun i hi => cell_putG ({ g with c := upd g.c k (qB ((0 : Nat) : Int)) } : G) hlt _ i hi); rfl; rfl; rfl; rfl)
            intro x7 s7 b7 k7
            have HB := Lib.hid b7
            have HT := Lib.hid (HT.out.other k7 hwB hbl)
            have HC := Lib.hid (HC.out.grown k7 (by omega))
            clear b7 k7
            go_wp2_with fail
            refine (fewS HS.out HT.out (by omega)).mono ?_
            rintro e x8 ⟨y, rfl, hy, hst, hg⟩
            have HT := Lib.hid hst
            have HB := Lib.hid (HB.out.grown hg (by omega))
            have HC := Lib.hid (HC.out.grown hg (by omega))
            clear hst hg
            go_wp2_with (first | ((with_reducible refine wpList_gate ?_); refine wpList_arith _ _ rfl rfl rfl ?_; intro r n hr) | ((with_reducible refine wpList_setH (r := r) (HB.out.drewN _) hlt ?_ ?_ ?_); rfl; rfl))
            intro x9 s9 b9 k9
            have HR : r = qB (y + 40) := by
              have h1 : Is r (fadd (some 1092616192) (qF y)) := hr.op rfl (by rw [(qF_eq (by omega) (by omega)).1]; exact (qF_eq (by omega) (by omega)).2)
              exact fb_bits (h1.out.trans (head_q hy.1 hy.2))
            have HT := Lib.hid ((HT.out.drewN _).other k9 hwB hbl)
            have HC := Lib.hid ((HC.out.drewN _).grown k9 (by omega))
            have HB : Hid (Blk x9 B (arrG { g with c := upd g.c k (qB ((0 : Nat) : Int)), g := upd g.g k (qB z), h := upd g.h k (qB (y + 40)) }) 30) := by rw [← HR]; exact b9
            have HD : Hid (DrTo { g with c := upd g.c k (qB ((0 : Nat) : Int)), g := upd g.g k (qB z), h := upd g.h k (qB (y + 40)) } (k + 1) fx) := (HD.out.put (c := 0) (z := z) (y := y + 40) (gain := true) HH.out (by omega) hz (by omega))
            have HH : Hid (hasB g.wide g.high k = true) := HH
            clear hr HR b9 k9
            go_wp2_with fail
            refine (oneS HS.out HT.out (by omega) (m := 5) (by omega) (by omega)).mono ?_
            rintro e x10 ⟨o3, rfl, hst, hg⟩
            have HT := Lib.hid hst
            have HB := Lib.hid (HB.out.grown hg (by omega))
            have HC := Lib.hid (HC.out.grown hg (by omega))
            clear hst hg
            cases o3
            · go_wp2_with fail
              go_roundw
              case rel => exact ⟨k + 1, _, _, fx, by omega, by go_num, HD.out, HB.out, HC.out, HT.out, by omega⟩
              case measure => simp [intOf]; omega
            · have hfx := (GAt.of_blk HB.out).fixed
              go_wp2_with ((with_reducible refine wpList_setG (k := 194) (v := .int .u64 (orBit g.fixed k)) (g' := { ({ g with c := upd g.c k (qB ((0 : Nat) : Int)), g := upd g.g k (qB z), h := upd g.h k (qB (y + 40)) } : G) with fixed := orBit g.fixed k }) sizeU HB.out ?_ ?_ ?_ ?_ ?_ ?_ ?_); (exact by omega); (exact fun i hi => cell_setFx _ _ hi); rfl; rfl; rfl; rfl)
              intro x11 s11 b11 k11
              have HB := Lib.hid b11
              have HT := Lib.hid (HT.out.other k11 hwB hbl)
              have HC := Lib.hid (HC.out.grown k11 (by omega))
              clear b11 k11 hfx
              go_wp2_with fail
              go_roundw
              case rel => exact ⟨k + 1, _, _, fx ++ [k], by omega, by go_num, HD.out.fix HH.out, HB.out, HC.out, HT.out, by omega⟩
              case measure => simp [intOf]; omega
    · have k1 : ¬ (k : Int) < 64 := by omega
      obtain rfl : k = 64 := by omega
      have hfx := (GAt.of_blk HB.out).fixed
      by_cases hf : g.fixed = 0
      · have HD1 := Lib.hid HD.out.done1
        have hf1 : (g.fixed == 0) = true := by rw [hf]; rfl
        clear hf
        go_wp2_with ((with_reducible refine wpList_setG (k := 194) (v := .int .u64 1) (g' := { g with fixed := 1 }) sizeU HB.out ?_ ?_ ?_ ?_ ?_ ?_ ?_); (exact by omega); (exact fun i hi => cell_setFx _ _ hi); rfl; rfl; rfl; rfl)
        intro x1 s1 b1 k1
        have HT := Lib.hid (HT.out.other k1 hwB hbl)
        have HC := Lib.hid (HC.out.grown k1 (by omega))
        clear k1 hfx hf1
        go_wp2_with (first | ((with_reducible refine wpList_getG b1 ?_ ?_); rfl) | ((with_reducible refine wpList_putG (g := { g with fixed := 1 }) HC.out ?_ ?_ ?_); rfl; rfl))
        intro x2 s2 b2 k2
        have HT := Lib.hid (HT.out.other k2 hwC hbl)
        clear k2
        go_wp2_with fail
        exact ret_cell1 rfl rfl (loadG b2) rfl ⟨_, q, rfl, HD1.out, HT.out, by omega⟩
      · have HD1 := Lib.hid (HD.out.done hf)
        have hf1 : (g.fixed == 0) = false := by simpa using hf
        have hf2 : ¬ g.fixed = 0 := hf
        clear hf
        have b1 := HB.out
        go_wp2_with (first | ((with_reducible refine wpList_getG b1 ?_ ?_); rfl) | ((with_reducible refine wpList_putG (g := g) HC.out ?_ ?_ ?_); rfl; rfl))
        intro x2 s2 b2 k2
        have HT := Lib.hid (HT.out.other k2 hwC hbl)
        clear k2
        go_wp2_with fail
        exact ret_cell1 rfl rfl (loadG b2) rfl ⟨_, q, rfl, HD1.out, HT.out, by omega⟩
end Go.Proofs.Ytfcphfdfpjmgiaa

namespace Go.Proofs.Ytfcphfdfpjmgiaa
open Go.RowKit

set_option maxRecDepth 100000 in
set_option maxHeartbeats 800000 in
theorem a2Long_any (v v' : Value) (n n' : Nat) (w : World) (h1 : ∃ a cap, v = .slice a n cap) (h2 : ∃ a cap, v' = .slice a n' cap) (hn : n < 9223372036854775808) (hn' : n' < 9223372036854775808) :
    Calls Try.prog 11 #[v, v'] w fun e w' => e = .returned (.bool (decide (3000 < n) || decide (3000 < n'))) ∧ w = w' := by
  obtain ⟨a, cap, rfl⟩ := h1
  obtain ⟨a', cap', rfl⟩ := h2
  by_cases g1 : 3000 < n
  · have z1 : (3000 : Int) < (n : Int) := by omega
    rw [decide_eq_true g1, Bool.true_or]
    go_enter Try.func11, Try.ntmps11
    go_wp2_with fail
    go_ret
    exact ⟨rfl, rfl⟩
  · have z1 : ¬ (3000 : Int) < (n : Int) := by omega
    rw [decide_eq_false g1, Bool.false_or]
    by_cases g2 : 3000 < n'
    · have z2 : (3000 : Int) < (n' : Int) := by omega
      rw [decide_eq_true g2]
      go_enter Try.func11, Try.ntmps11
      go_wp2_with fail
      go_ret
      exact ⟨rfl, rfl⟩
    · have z2 : ¬ (3000 : Int) < (n' : Int) := by omega
      rw [decide_eq_false g2]
      go_enter Try.func11, Try.ntmps11
      go_wp2_with fail
      go_ret
      exact ⟨rfl, rfl⟩

theorem SrcIn.of {w0 w : World} {b n : Nat} {v : Value} (hn : n ≤ 4096) (hv : BytesAt w0 v n) (hb : Below w0.heap.size w0 w) (h1 : w0.heap.size ≤ b) (h2 : SrcAt w b v 0) : SrcIn w0 w b n v :=
  ⟨hn, hv, hb, h1, by obtain ⟨_, _, _, h⟩ := h2; exact h.lt⟩
theorem StAt.below {w0 w wr : World} {b n q : Nat} {v : Value} (hs : SrcIn w0 w b n v) (h : StAt w b v q wr) : Below w0.heap.size w0 wr := below_grown hs.below h.grow hs.below.size hs.le

/-- A drawn ground is handed back. -/
def RetA2 (w : World) (e : Ending) (w' : World) : Prop := ∃ g, e = .returned (.agg (arrG g)) ∧ Drawn g ∧ Below w.heap.size w w'
set_option maxRecDepth 100000 in
set_option maxHeartbeats 1600000 in
theorem A2Ground_any (v : Value) (n : Nat) (w : World) (hn : n ≤ 4096) (hv : BytesAt w v n) : Calls Try.prog 12 #[v] w (RetA2 w) := by
  have h1 := hv.slice
  have HV := Lib.hid hv
  clear hv
  go_enter Try.func12, Try.ntmps12
  go_wp2_with (first | (with_reducible refine wpList_new newF ?_) | (with_reducible refine wpList_zero (zeroF _) ?_) | (with_reducible refine wpList_new newG ?_) | (with_reducible refine wpList_zero (zeroG _) ?_))
  intro C wC hC1 hC2 hC3 hC4
  have HC := Lib.hid hC3
  have HBC := Lib.hid hC4
  clear hC3 hC4
  go_wp2_with fail
  refine (l00From_any v wC h1).mono ?_
  rintro e w1 ⟨b, rfl, hb, hs, hb1⟩
  have HB1 := Lib.hid (below_next HBC.out hb1)
  have HC1 := Lib.hid (HC.out.later hb1)
  have HS := Lib.hid (SrcIn.of hn HV.out HB1.out (by omega) hs)
  have HT : Hid (StAt w1 b v 0 w1) := ⟨hs, grown_refl _ _⟩
  clear hs hb1 h1
  go_wp2_with fail
  refine (l01Drawn_any HS.out (by omega) HT.out).mono ?_
  rintro e w2 ⟨g, q, rfl, hd, hst, hq⟩
  have HD := Lib.hid hd
  have HB2 := Lib.hid (hst.below HS.out)
  have HC2 := Lib.hid (HC1.out.grown hst.grow (by omega))
  clear hd hst
  go_wp2_with ((with_reducible refine wpList_putG (g := g) HC2.out ?_ ?_ ?_); rfl; rfl)
  intro w3 s3 b3 k3
  have HB3 := Lib.hid (below_grown HB2.out k3 HB2.out.size hC1)
  clear k3
  go_wp2_with fail
  exact ret_cell1 rfl rfl (loadG b3) rfl ⟨g, rfl, HD.out, HB3.out⟩

set_option maxRecDepth 100000 in
set_option maxHeartbeats 1600000 in
theorem A2Cell_any (v : Value) (n : Nat) (g : G) (w : World) (hn : n ≤ 4096) (hv : BytesAt w v n) (hd : Drawn g) :
    Calls Try.prog 47 #[v, .agg (arrG g)] w fun e w' => ∃ c : Nat, e = .returned (.int .i64 c) ∧ IsCell g.m c ∧ Below w.heap.size w w' := by
  have h1 := hv.slice
  have HV := Lib.hid hv
  obtain ⟨W, hW⟩ : ∃ W : Nat, g.wide = W := ⟨g.wide.toNat, by have := hd.wide; omega⟩
  obtain ⟨H, hH⟩ : ∃ H : Nat, g.high = H := ⟨g.high.toNat, by have := hd.high; omega⟩
  have w1 : 2 ≤ W ∧ W ≤ 4 := by have := hd.wide; omega
  have w2 : 2 ≤ H ∧ H ≤ 4 := by have := hd.high; omega
  have z1 : (W : Int) ≤ 4 := by omega
  have z2 : (H : Int) ≤ 4 := by omega
  have HW := Lib.hid hW
  have HH := Lib.hid hH
  clear hv hW hH hd
  go_enter Try.func47, Try.ntmps47
  go_wp2_with (with_reducible refine wpList_box rfl ?_)
  intro B wB hB1 hB2 hB3 hB4
  have HG := Lib.hid hB3
  have HBB := Lib.hid hB4
  clear hB3 hB4
  go_wp2_with fail
  refine (l00From_any v wB h1).mono ?_
  rintro e wS ⟨b, rfl, hb, hs, hb1⟩
  have HB1 := Lib.hid (below_next HBB.out hb1)
  have HG1 := Lib.hid (HG.out.later hb1)
  have HS := Lib.hid (SrcIn.of hn HV.out HB1.out (by omega) hs)
  have HT : Hid (StAt wS b v 0 wS) := ⟨hs, grown_refl _ _⟩
  have c0 : wS.cell? ⟨B, 0, none⟩ = some (.int .i8 (W : Int)) := by rw [← HW.out]; exact (GAt.of_blk HG1.out).wide
  clear hs hb1 h1
  go_wp2_with fail
  refine (pickS HS.out HT.out (by omega) (m := W) (by omega) (by omega)).mono ?_
  rintro e w3 ⟨x, rfl, hx, hst, hg⟩
  have HT3 := Lib.hid hst
  have HG3 := Lib.hid (HG1.out.grown hg (by omega))
  have c1 : w3.cell? ⟨B, 1, none⟩ = some (.int .i8 (H : Int)) := by rw [← HH.out]; exact (GAt.of_blk HG3.out).high
  have x1 : (x : Int) < 4 := by omega
  clear hst hg c0
  go_wp2_with fail
  refine (pickS HS.out HT3.out (by omega) (m := H) (by omega) (by omega)).mono ?_
  rintro e w4 ⟨y, rfl, hy, hst, hg⟩
  have HB4 := Lib.hid (hst.below HS.out)
  have y1 : (y : Int) < 4 := by omega
  clear hst hg c1
  go_wp2_with fail
  go_ret
  refine ⟨x + 8 * y, by simp, ⟨by omega, ?_⟩, HB4.out⟩
  show hasB g.wide g.high (x + 8 * y) = true
  unfold hasB
  rw [HW.out, HH.out, Bool.and_eq_true]
  exact ⟨decide_eq_true (by omega), decide_eq_true (by omega)⟩

set_option maxRecDepth 100000 in
set_option maxHeartbeats 800000 in
theorem A2Is_any (g : G) (k : Nat) (w : World) (hr : g.Rng) (hk : k < 64) :
    Calls Try.prog 25 #[.agg (arrG g), .int .i64 k] w (RetB (hasB g.wide g.high k) w) := by
  go_enter Try.func25, Try.ntmps25
  go_wp2_with (with_reducible refine wpList_box rfl ?_)
  intro B wB hB1 hB2 hB3 hB4
  have HBB := Lib.hid hB4
  have HG := Lib.hid (GAt.of_blk hB3)
  clear hB3 hB4
  go_wp2_with fail
  refine (l01Is_any B 0 k g wB hk hr HG.out).mono ?_
  rintro e w' ⟨rfl, rfl⟩
  go_wp2_with fail
  go_ret
  exact ⟨rfl, HBB.out⟩

set_option maxRecDepth 100000 in
set_option maxHeartbeats 800000 in
theorem CellsOf_any (g : G) (w : World) (hr : g.Rng) (ho : okI g.m = true) :
    Calls Try.prog 54 #[.agg (arrG g)] w fun e w' => e = .returned (.tuple #[.int .u64 (bitsL (cellsM g.m)), .int .i64 0]) ∧ Below w.heap.size w w' := by
  have HO := Lib.hid ho
  clear ho
  go_enter Try.func54, Try.ntmps54
  go_wp2_with (with_reducible refine wpList_box rfl ?_)
  intro B wB hB1 hB2 hB3 hB4
  have HBB := Lib.hid hB4
  have HG := Lib.hid hB3
  have g1 := hB3
  clear hB3 hB4
  go_wp2_with ((with_reducible refine wpList_getG g1 ?_ ?_); rfl)
  refine (ValidGround_any g _ hr).mono ?_
  rw [HO.out]
  rintro e w2 ⟨rfl, hb2⟩
  have HB2 := Lib.hid (below_next HBB.out hb2)
  have HG2 := Lib.hid (GAt.of_blk (HG.out.later hb2))
  clear hb2 g1
  go_wp2_with fail
  refine (bits_any B 0 g w2 hr HG2.out).mono ?_
  rintro e w3 ⟨rfl, hb3⟩
  have HB3 := Lib.hid (below_next HB2.out hb3)
  clear hb3
  go_wp2_with fail
  go_ret2
  exact ⟨rfl, HB3.out⟩

set_option maxRecDepth 100000 in
set_option maxHeartbeats 800000 in
theorem sideFault_any (b : Nat) (t : TypeId) (k s : Nat) (g : G) (w : World) (hr : g.Rng) (ho : askC g.m k = 0) (hs : s < 4) (hg : Blk w b (arrG g) t) :
    Calls Try.prog 147 #[.pointer (some ⟨b, 0, none⟩), .int .i64 k, .int .i64 s] w (RetI .i64 0 w) := by
  have HO := Lib.hid ho
  have s1 : (s : Int) ≤ 3 := by omega
  have s0 : (0 : Int) ≤ s := by omega
  clear ho
  go_enter Try.func147, Try.ntmps147
  go_wp2_with fail
  refine (cellFault_any b t k g w hr hg).mono ?_
  rw [HO.out]
  rintro e w2 ⟨rfl, hb2⟩
  have HB2 := Lib.hid hb2
  clear hb2
  go_wp2_with fail
  refine (in_any _ _ _ _).mono ?_
  rw [decide_eq_true s0, decide_eq_true s1]
  rintro e w3 ⟨rfl, rfl⟩
  go_wp2_with fail
  go_ret
  exact ⟨rfl, HB2.out⟩
theorem ask_cell {m : M} (ho : okI m = true) {k : Nat} (hk : IsCell m k) : askC m k = 0 := by
  unfold askC
  rw [if_pos ho, if_pos (by
    rw [Bool.and_eq_true]
    have := hk.1
    exact ⟨decide_eq_true (by omega), by simpa using hk.2⟩)]
set_option maxRecDepth 100000 in
set_option maxHeartbeats 800000 in
theorem FlowFrom_any (k s : Nat) (g : G) (w : World) (hsn : g.Sane) (ho : okI g.m = true) (hk : IsCell g.m k) (hs : s < 4) :
    Calls Try.prog 51 #[.agg (arrG g), .int .i64 k, .int .i64 s] w (RetFI (flow g.m k s) 0 w) := by
  have HA := Lib.hid (ask_cell ho hk)
  have HF := Lib.hid (flow_fin ho hk.1 hk.2 (s := s))
  have hr := hsn.rng
  have hk64 := hk.1
  clear ho hk
  go_enter Try.func51, Try.ntmps51
  go_wp2_with (with_reducible refine wpList_box rfl ?_)
  intro B wB hB1 hB2 hB3 hB4
  have HBB := Lib.hid hB4
  have HG := Lib.hid hB3
  clear hB3 hB4
  go_wp2_with fail
  refine (sideFault_any B _ k s g wB hr HA.out hs HG.out).mono ?_
  rintro e w2 ⟨rfl, hb2⟩
  have HB2 := Lib.hid (below_next HBB.out hb2)
  have HG2 := Lib.hid (GAt.of_blk (HG.out.later hb2))
  clear hb2
  go_wp2_with fail
  refine (flow_any B 0 k s g w2 hk64 hs hr hsn.hW hsn.hH HG2.out).mono ?_
  rintro e w3 ⟨r, rfl, hr3, hb3⟩
  have HB3 := Lib.hid (below_next HB2.out hb3)
  have HR := Lib.hid hr3
  clear hb3 hr3
  go_wp2_with fail
  refine (told_any r _ w3 HR.out).mono ?_
  rw [HF.out]
  rintro e w4 ⟨q, rfl, hq, hb4⟩
  have HB4 := Lib.hid (below_next HB3.out hb4)
  have HQ := Lib.hid hq
  clear hb4 hq
  go_wp2_with fail
  go_ret2
  exact ⟨q, rfl, HQ.out, HB4.out⟩
end Go.Proofs.Ytfcphfdfpjmgiaa
