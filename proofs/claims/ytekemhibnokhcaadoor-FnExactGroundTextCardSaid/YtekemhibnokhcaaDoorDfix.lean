/- Whether a cell is fixed; the settled head of a cell. -/
import Derived.Test.YtekemhibnokhcaaDoorDcom
import Derived.Test.YtekemhibnokhcaaDoorDhx2
import Derived.Test.YtekemhibnokhcaaDoorToG
import Derived.Test.YtekemhibnokhcaaDoorL01Ok
import Derived.Laws.BitsAllLaws
namespace Go.Proofs.YtekemhibnokhcaaDoor
open Go.RowKit

/-- What is needed of a ground's numbers. -/
structure G.Sane (g : G) : Prop where
  rng : g.Rng
  lW : 2 ≤ g.wide
  lH : 2 ≤ g.high
  hW : g.wide ≤ 8
  hH : g.high ≤ 8
  f0 : 0 ≤ g.fixed
  f1 : g.fixed < 18446744073709551616

def G.Fx (g : G) : Prop := 0 ≤ g.fixed ∧ g.fixed < 18446744073709551616
theorem sane_of {g : G} (h : okI g.m = true) (hx : g.Fx) : g.Sane := by
  obtain ⟨⟨a, c⟩, b, d⟩ := sized_of h
  exact ⟨rng_of (sized_of h), a, b, c, d, hx.1, hx.2⟩

def fixB (x : Int) (k : Nat) : Bool := decide (x / 2 ^ k % 2 = 1)

theorem shr_range {x : Int} (k : Nat) (h0 : 0 ≤ x) (h1 : x < 18446744073709551616) : 0 ≤ x / 2 ^ k ∧ x / 2 ^ k < 18446744073709551616 := by
  have hp : (0 : Int) < 2 ^ k := Int.pow_pos (by decide)
  refine ⟨Int.ediv_nonneg h0 (by omega), ?_⟩
  have := Int.ediv_le_self (2 ^ k) h0
  omega

set_option maxHeartbeats 400000 in
theorem fixed_any (b o k : Nat) (g : G) (w : World) (hk : k < 64) (hs : g.Sane) (hg : GAt w b o g) :
    Calls Tryd.prog 29 #[.pointer (some ⟨b, o, none⟩), .int .i64 k] w fun e w' => e = .returned (.bool (fixB g.fixed k)) ∧ w = w' := by
  have hc := hg.fixed
  obtain ⟨r0, r1⟩ := shr_range k hs.f0 hs.f1
  clear hg hs
  go_enter Tryd.func29, Tryd.ntmps29
  go_wp2_with fail
  go_ret
  refine ⟨ret_bool ?_, rfl⟩
  rw [show (1 : Int) = ((1 : Nat) : Int) from rfl, u64_and _ _ r0 r1 (by decide) (by decide)]
  unfold fixB
  have e : (((1 : Nat) : Int)).toNat = 1 := rfl
  rw [e, nat_mask1]
  generalize g.fixed / 2 ^ k = y at *
  rw [Bool.beq_eq_decide_eq]
  exact decide_eq_decide.2 (by omega)

set_option maxHeartbeats 400000 in
theorem l01Fixed_any (b o k : Nat) (g : G) (w : World) (hk : k < 64) (hs : g.Sane) (hg : GAt w b o g) :
    Calls Tryd.prog 46 #[.pointer (some ⟨b, o, none⟩), .int .i64 k] w fun e w' => e = .returned (.bool (fixB g.fixed k)) ∧ w = w' := by
  have hc := hg.fixed
  obtain ⟨r0, r1⟩ := shr_range k hs.f0 hs.f1
  clear hg hs
  go_enter Tryd.func46, Tryd.ntmps46
  go_wp2_with fail
  go_ret
  refine ⟨ret_bool ?_, rfl⟩
  unfold fixB
  rw [Bool.beq_eq_decide_eq]
end Go.Proofs.YtekemhibnokhcaaDoor
