/- The joint of two conductances, and what flows from a cell to the one beside it. -/
import Derived.Test.YtfcphfdfpjmgiaaMem
import Derived.Lib.Hide
namespace Go.Proofs.Ytfcphfdfpjmgiaa
open Go.RowKit

/-- A float is handed back; the world is as it was, but for draws and new memory. -/
def RetF (x : F) (w : World) (e : Ending) (w' : World) : Prop := ∃ r, e = .returned (.float .f32 r) ∧ Is r x ∧ Below w.heap.size w w'



theorem order_gt (x y : Nat) : (FloatKind.f32.format.order x y == some .gt) = fgt (fb x) (fb y) := by rw [order32]; rfl
theorem order_lt (x y : Nat) : (FloatKind.f32.format.order x y == some .lt) = flt (fb x) (fb y) := by rw [order32]; rfl
theorem order_eq (x y : Nat) : (FloatKind.f32.format.order x y == some .eq) = feq (fb x) (fb y) := by rw [order32]; rfl

def joint (a b : F) : F := if fgt a (some 0) && fgt b (some 0) then fdiv (fmul (some 1073741824) (fmul a b)) (fadd a b) else some 0

theorem fb0 : fb 0 = some 0 := by decide
theorem fb2 : fb 1073741824 = some 1073741824 := by decide

set_option maxHeartbeats 400000 in
theorem JointOf_any (a b : Nat) (w : World) :
    Calls Try.prog 69 #[.float .f32 a, .float .f32 b] w (RetF (joint (fb a) (fb b)) w) := by
  have hgt := order_gt
  go_enter Try.func69, Try.ntmps69
  go_wp2_with (refine wpList_arith _ _ rfl rfl rfl ?_; intro r n hr)
  all_goals
    go_ret
    refine ⟨_, rfl, ?_, by repeat (first | exact Below.refl _ _ | refine below_drawn ?_ _)⟩
    simp only [Is, fop, fb0, fb2, Bool.not_eq_true', Bool.not_eq_false'] at *
    simp [joint, *]

/-- A callee's word: it hands back this number. -/
def SF (x : F) (_ : FuncId) (_ : Array Value) (v : Value) : Prop := ∃ r, v = .float .f32 r ∧ Is r x

/-- A callee's word: it hands back this value. -/
def SV (x : Value) (_ : FuncId) (_ : Array Value) (v : Value) : Prop := v = x

def flow (m : M) (k s : Nat) : F :=
  if beside m.wide m.high k s < 0 then some 0
  else fmul (joint (m.c k) (m.c (beside m.wide m.high k s).toNat)) (fsub (m.h k) (m.h (beside m.wide m.high k s).toNat))

theorem beside_lt (W H : Int) (k s : Nat) (hk : k < 64) (hW : W ≤ 8) (hH : H ≤ 8) : beside W H k s < 64 ∧ -1 ≤ beside W H k s := by
  unfold beside besideXY
  simp only []
  split <;> split <;> (first | omega | (split <;> (first | omega | (split <;> omega))))

set_option maxRecDepth 100000 in
set_option maxHeartbeats 400000 in
theorem flow_any (b o k s : Nat) (g : G) (w : World) (hk : k < 64) (hs : s < 4) (hr : g.Rng) (hW : g.wide ≤ 8) (hH : g.high ≤ 8) (hg : GAt w b o g) :
    Calls Try.prog 148 #[.pointer (some ⟨b, o, none⟩), .int .i64 k, .int .i64 s] w (RetF (flow g.m k s) w) := by
  have hlt := beside_lt g.wide g.high k s hk hW hH
  by_cases hn : beside g.wide g.high k s < 0
  · go_enter Try.func148, Try.ntmps148
    go_wp2_with (go_at_call 164; refine (beside_any b o k s g _ hk hs hr hg).mono ?_; rintro e w' ⟨rfl, rfl⟩)
    all_goals
      go_ret
      exact ⟨0, rfl, by simp [flow, G.m, hn, Is, fb0], Below.refl _ _⟩
  · obtain ⟨m, hm⟩ : ∃ m : Nat, beside g.wide g.high k s = m := ⟨(beside g.wide g.high k s).toNat, by omega⟩
    have hml : m < 64 := by omega
    have HM := Lib.hid hm
    have k1 : (k : Int) < 64 := by omega
    have m1 : (m : Int) < 64 := by omega
    have c1 := fun x => ext_cell w x (hg.c hk)
    have c2 := fun x => ext_cell w x (hg.c hml)
    have c3 := fun x => ext_cell w x (hg.h hk)
    have c4 := fun x => ext_cell w x (hg.h hml)
    have cb := (beside_any b o k s g w hk hs hr hg)
    rw [hm] at cb
    have CB := Lib.hid cb
    clear cb hn hlt hm hg hr hW hH hs
    go_enter Try.func148, Try.ntmps148
    go_wp2_with (go_at_call 164; refine CB.out.mono ?_; rintro e w' ⟨rfl, rfl⟩)
    refine wp_soft (SF (joint (fb (g.c k)) (fb (g.c m)))) (by kernel_rfl) (by kernel_rfl) ?_
    repeat (first | (refine soft_arith (fun _ n h => h.drewN n) _ _ rfl rfl rfl ?_; intro r hr) | (refine soft_step (fun K hK => ?_); go_simp; (try go_bits); refine hK _ ?_; clear hK K) | (refine soft_step (fun K hK => ?_); go_simp; refine ⟨_, _, ⟨rfl, rfl⟩, fun x => (JointOf_any _ _ _).mono ?_, ?_⟩; (rintro e w1 ⟨r, he, hr, hb⟩; exact ⟨_, he, ⟨r, rfl, hr⟩, hb⟩); rintro v ⟨r, rfl, hr⟩; refine hK _ ?_; clear hK K))

    refine soft_nil ?_
    rintro w1 hw1
    have HB := Lib.hid hw1.below
    clear hw1
    go_wp2_with fail
    go_ret
    refine ⟨_, rfl, ?_, HB.out⟩
    simp only [Is, fop] at *
    have hnn : ¬ ((m : Int) < 0) := by omega
    have hk2 := fm_of (f := g.c) hk
    have hk3 := fm_of (f := g.h) hk
    have hk4 := fm_of (f := g.c) hml
    have hk5 := fm_of (f := g.h) hml
    simp [flow, G.m, HM.out, *]
end Go.Proofs.Ytfcphfdfpjmgiaa
