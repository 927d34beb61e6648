/- Whether a cell is fixed; the settled head of a cell. -/
import Derived.Test.YtfddjbpfahjleaaToG
import Derived.Test.YtfddjbpfahjleaaSpecBal
import Derived.Laws.BitsAllLaws
namespace Go.Proofs.Ytfddjbpfahjleaa
open Go.RowKit

/-- What is needed of a ground's numbers. -/
structure G.Sane (g : G) : Prop where
  rng : g.Rng
  lW : 2 ≤ g.wide
  lH : 2 ≤ g.high
  hW : g.wide ≤ 8
  hH : g.high ≤ 8
  f0 : 0 ≤ g.fixed
  f1 : g.fixed < 18446744073709551616

def G.Fx (g : G) : Prop := 0 ≤ g.fixed ∧ g.fixed < 18446744073709551616
theorem sane_of {g : G} (h : okI g.m = true) (hx : g.Fx) : g.Sane := by
  obtain ⟨⟨a, c⟩, b, d⟩ := sized_of h
  exact ⟨rng_of (sized_of h), a, b, c, d, hx.1, hx.2⟩

def fixB (x : Int) (k : Nat) : Bool := decide (x / 2 ^ k % 2 = 1)

theorem shr_range {x : Int} (k : Nat) (h0 : 0 ≤ x) (h1 : x < 18446744073709551616) : 0 ≤ x / 2 ^ k ∧ x / 2 ^ k < 18446744073709551616 := by
  have hp : (0 : Int) < 2 ^ k := Int.pow_pos (by decide)
  refine ⟨Int.ediv_nonneg h0 (by omega), ?_⟩
  have := Int.ediv_le_self (2 ^ k) h0
  omega

set_option maxHeartbeats 400000 in
theorem fixed_any (b o k : Nat) (g : G) (w : World) (hk : k < 64) (hs : g.Sane) (hg : GAt w b o g) :
    Calls Try.prog 92 #[.pointer (some ⟨b, o, none⟩), .int .i64 k] w fun e w' => e = .returned (.bool (fixB g.fixed k)) ∧ w = w' := by
  have hc := hg.fixed
  obtain ⟨r0, r1⟩ := shr_range k hs.f0 hs.f1
  clear hg hs
  go_enter Try.func92, Try.ntmps92
  go_wp2_with fail
  go_ret
  refine ⟨ret_bool ?_, rfl⟩
  rw [show (1 : Int) = ((1 : Nat) : Int) from rfl, u64_and _ _ r0 r1 (by decide) (by decide)]
  unfold fixB
  have e : (((1 : Nat) : Int)).toNat = 1 := rfl
  rw [e, nat_mask1]
  generalize g.fixed / 2 ^ k = y at *
  rw [Bool.beq_eq_decide_eq]
  exact decide_eq_decide.2 (by omega)

set_option maxHeartbeats 400000 in
theorem l01Fixed_any (b o k : Nat) (g : G) (w : World) (hk : k < 64) (hs : g.Sane) (hg : GAt w b o g) :
    Calls Try.prog 91 #[.pointer (some ⟨b, o, none⟩), .int .i64 k] w fun e w' => e = .returned (.bool (fixB g.fixed k)) ∧ w = w' := by
  have hc := hg.fixed
  obtain ⟨r0, r1⟩ := shr_range k hs.f0 hs.f1
  clear hg hs
  go_enter Try.func91, Try.ntmps91
  go_wp2_with fail
  go_ret
  refine ⟨ret_bool ?_, rfl⟩
  unfold fixB
  rw [Bool.beq_eq_decide_eq]

/-- The sums over the first sides of a cell. -/
def abv (m : M) (k : Nat) : Nat → F
  | 0 => m.g k
  | s + 1 => if 0 ≤ beside m.wide m.high k s then fadd (abv m k s) (fmul (joint (m.c k) (m.c (beside m.wide m.high k s).toNat)) (m.h (beside m.wide m.high k s).toNat)) else abv m k s
def blw (m : M) (k : Nat) : Nat → F
  | 0 => some 0
  | s + 1 => if 0 ≤ beside m.wide m.high k s then fadd (blw m k s) (joint (m.c k) (m.c (beside m.wide m.high k s).toNat)) else blw m k s
def head (m : M) (k : Nat) : F := if fixB m.fixed k || feq (blw m k 4) (some 0) then m.h k else fdiv (abv m k 4) (blw m k 4)

theorem head_fixed {g : G} {k : Nat} (h : fixB g.fixed k = true) : head g.m k = fm g.h k := by
  show (if fixB g.fixed k || _ then _ else _) = _; rw [h]; rfl
theorem head_none {g : G} {k : Nat} (h : feq (blw g.m k 4) (some 0) = true) : head g.m k = fm g.h k := by
  show (if fixB g.fixed k || _ then _ else _) = _; rw [h, Bool.or_true]; rfl
theorem head_free {g : G} {k : Nat} (h : fixB g.fixed k = false) (h' : feq (blw g.m k 4) (some 0) = false) : head g.m k = fdiv (abv g.m k 4) (blw g.m k 4) := by
  show (if fixB g.fixed k || _ then _ else _) = _; rw [h, h']; rfl

theorem abv_yes {m : M} {k s n : Nat} (h : beside m.wide m.high k s = n) : abv m k (s + 1) = fadd (abv m k s) (fmul (joint (m.c k) (m.c n)) (m.h n)) := by
  show (if _ then _ else _) = _; rw [h, if_pos (by omega)]; rfl
theorem blw_yes {m : M} {k s n : Nat} (h : beside m.wide m.high k s = n) : blw m k (s + 1) = fadd (blw m k s) (joint (m.c k) (m.c n)) := by
  show (if _ then _ else _) = _; rw [h, if_pos (by omega)]; rfl
theorem abv_no {m : M} {k s : Nat} (h : beside m.wide m.high k s = -1) : abv m k (s + 1) = abv m k s := by
  show (if _ then _ else _) = _; rw [h, if_neg (by omega)]
theorem blw_no {m : M} {k s : Nat} (h : beside m.wide m.high k s = -1) : blw m k (s + 1) = blw m k s := by
  show (if _ then _ else _) = _; rw [h, if_neg (by omega)]

theorem Is.opl {r a b : Nat} {op : BinOp} {A : F} (h : Is r (fop op (fb a) (fb b))) (ha : Is a A) : Is r (fop op A (fb b)) := by rw [ha.out] at h; exact h
theorem Is.opr {r a b : Nat} {op : BinOp} {B : F} (h : Is r (fop op (fb a) (fb b))) (hb : Is b B) : Is r (fop op (fb a) B) := by rw [hb.out] at h; exact h

end Go.Proofs.Ytfddjbpfahjleaa
