/- Whether a ground is still. -/
import Derived.Test.YtllblebicdeieaaEqG
namespace Go.Proofs.Ytllblebicdeieaa
open Go.RowKit

/-- A bool and a code are handed back. -/
def RetBI (x : Bool) (z : Int) (w : World) (e : Ending) (w' : World) : Prop := e = .returned (.tuple #[.bool x, .int .i64 z]) ∧ Below w.heap.size w w'
def stillB (m : M) (x : F) : Bool := if okI m then (if amount x then (if stepC m = 0 then fle (stepX m) x else false) else false) else false
def stillC (m : M) (x : F) : Int := if okI m then (if amount x then stepC m else 2) else 1
theorem stepC_or {m : M} (h : okI m = true) : stepC m = 0 ∨ stepC m = 4 := by
  unfold stepC swC
  rw [h, if_pos rfl]
  split
  · exact .inl rfl
  · exact .inr rfl

set_option maxHeartbeats 400000 in
theorem l02Within_any (a : Nat) (w : World) : Calls Try.prog 51 #[.float .f32 a] w (RetB (amount (fb a)) w) := by
  have hgt := order_gt
  have heq := order_eq
  cases hp : plain (fb a)
  · have HP := Lib.hid hp
    clear hp
    go_enter Try.func51, Try.ntmps51
    go_wp2_with (go_at_call 91; refine (l01Plain_any _ _).mono ?_; rw [HP.out]; rintro e w' ⟨rfl, hb⟩)
    all_goals
      go_ret
      refine ⟨ret_bool ?_, by assumption⟩
      unfold amount; rw [HP.out]; rfl
  · have HP := Lib.hid hp
    clear hp
    go_enter Try.func51, Try.ntmps51
    go_wp2_with (go_at_call 91; refine (l01Plain_any _ _).mono ?_; rw [HP.out]; rintro e w' ⟨rfl, hb⟩)
    all_goals
      go_ret
      refine ⟨ret_bool ?_, by assumption⟩
      unfold amount; rw [HP.out]; simp only [fb0, fge] at *; simp [*]

set_option maxRecDepth 100000 in
set_option maxHeartbeats 800000 in
theorem IsStill_any (g : G) (x : Nat) (w : World) (hr : g.Rng) (hx : g.Fx) :
    Calls Try.prog 20 #[.agg (arrG g), .float .f32 x] w (RetBI (stillB g.m (fb x)) (stillC g.m (fb x)) w) := by
  have hlt := order_lt
  have heq := order_eq
  cases hok : okI g.m
  · have HOK := Lib.hid hok
    clear hok hx hlt heq
    go_enter Try.func20, Try.ntmps20
    go_wp2_with (with_reducible refine wpList_box rfl ?_)
    intro b w1 hB1 hB2 hB3 hB4
    go_wp2_with ((with_reducible refine wpList_getG hB3 ?_ ?_); rfl)
    refine (ValidGround_any g w1 hr).mono ?_
    rw [HOK.out]
    rintro e w3 ⟨rfl, hb3⟩
    have HB := Lib.hid (hB4.trans (hb3.mono hB4.size))
    clear hB3 hB4 hb3
    go_wp2_with fail
    go_ret2
    refine ⟨?_, HB.out⟩
    unfold stillB stillC; rw [HOK.out]; rfl
  · have HOK := Lib.hid hok
    have hcc := stepC_or hok
    clear hok
    cases ham : amount (fb x)
    · have HAM := Lib.hid ham
      clear ham hx hlt heq hcc
      go_enter Try.func20, Try.ntmps20
      go_wp2_with (with_reducible refine wpList_box rfl ?_)
      intro b w1 hB1 hB2 hB3 hB4
      go_wp2_with ((with_reducible refine wpList_getG hB3 ?_ ?_); rfl)
      refine (ValidGround_any g w1 hr).mono ?_
      rw [HOK.out]
      rintro e w3 ⟨rfl, hb3⟩
      have hG := hB3.later hb3
      have HB := Lib.hid (hB4.trans (hb3.mono hB4.size))
      clear hB3 hB4 hb3
      go_wp2_with fail
      refine (isAmount_any _ w3).mono ?_
      rw [HAM.out]
      rintro e w4 ⟨rfl, hb4⟩
      have HB4 := Lib.hid (HB.out.trans (hb4.mono HB.out.size))
      clear hG hb4
      go_wp2_with fail
      go_ret2
      refine ⟨?_, HB4.out⟩
      unfold stillB stillC; rw [HOK.out, HAM.out]; rfl
    · have HAM := Lib.hid ham
      clear ham
      go_enter Try.func20, Try.ntmps20
      go_wp2_with (with_reducible refine wpList_box rfl ?_)
      intro b w1 hB1 hB2 hB3 hB4
      go_wp2_with ((with_reducible refine wpList_getG hB3 ?_ ?_); rfl)
      refine (ValidGround_any g w1 hr).mono ?_
      rw [HOK.out]
      rintro e w3 ⟨rfl, hb3⟩
      have hG := hB3.later hb3
      have HB := Lib.hid (hB4.trans (hb3.mono hB4.size))
      clear hB3 hB4 hb3
      go_wp2_with fail
      refine (isAmount_any _ w3).mono ?_
      rw [HAM.out]
      rintro e w4 ⟨rfl, hb4⟩
      have hG4 := hG.later hb4
      have HB4 := Lib.hid (HB.out.trans (hb4.mono HB.out.size))
      clear hG hb4
      go_wp2_with ((with_reducible refine wpList_getG hG4 ?_ ?_); rfl)
      refine (StepAtOnce_any g w4 hr hx).mono ?_
      rintro e w5 ⟨go, r, rfl, hm5, hr5, hb5⟩
      have HR := Lib.hid hr5
      have HB5 := Lib.hid (HB4.out.trans (hb5.mono HB4.out.size))
      clear hb5 hG4 hm5 hr5
      go_wp2_with (first | (with_reducible refine wpList_new newF ?_) | (with_reducible refine wpList_zero (zeroF _) ?_) | (with_reducible refine wpList_new newG ?_) | (with_reducible refine wpList_zero (zeroG _) ?_))
      intro B w6 hC1 hC2 hC3 hC4
      go_wp2_with ((with_reducible refine wpList_putG (g := go) hC3 ?_ ?_ ?_); rfl; rfl)
      intro w7 s7 b7 k7
      have HB7 := Lib.hid (below_grown (HB5.out.trans (hC4.mono HB5.out.size)) k7 (Nat.le_trans HB5.out.size hC4.size) (by have := HB5.out.size; omega))
      clear hC3 hC4 b7 k7
      rcases hcc with hcc | hcc
      · have HCC := Lib.hid hcc
        rw [hcc]
        clear hcc
        go_wp2_with fail
        go_ret2
        refine ⟨?_, HB7.out⟩
        unfold stillB stillC; rw [HOK.out, HAM.out, HCC.out, ← HR.out.out]; rfl
      · have HCC := Lib.hid hcc
        rw [hcc]
        clear hcc
        go_wp2_with fail
        go_ret2
        refine ⟨?_, HB7.out⟩
        unfold stillB stillC; rw [HOK.out, HAM.out, HCC.out]; rfl

set_option maxRecDepth 100000 in
set_option maxHeartbeats 800000 in
theorem specIsStill_any (g : G) (x : Nat) (w : World) (hr : g.Rng) (hx : g.Fx) :
    Calls Try.prog 19 #[.agg (arrG g), .float .f32 x] w (RetBI (stillB g.m (fb x)) (stillC g.m (fb x)) w) := by
  have hlt := order_lt
  have heq := order_eq
  cases hok : okI g.m
  · have HOK := Lib.hid hok
    clear hok hx hlt heq
    go_enter Try.func19, Try.ntmps19
    go_wp2_with (with_reducible refine wpList_box rfl ?_)
    intro b w1 hB1 hB2 hB3 hB4
    go_wp2_with fail
    refine (l01Ok_any b 0 g w1 hr (GAt.of_blk hB3)).mono ?_
    rw [HOK.out]
    rintro e w3 ⟨rfl, hb3⟩
    have HB := Lib.hid (hB4.trans (hb3.mono hB4.size))
    clear hB3 hB4 hb3
    go_wp2_with fail
    go_ret2
    refine ⟨?_, HB.out⟩
    unfold stillB stillC; rw [HOK.out]; rfl
  · have HOK := Lib.hid hok
    have hcc := stepC_or hok
    clear hok
    cases ham : amount (fb x)
    · have HAM := Lib.hid ham
      clear ham hx hlt heq hcc
      go_enter Try.func19, Try.ntmps19
      go_wp2_with (with_reducible refine wpList_box rfl ?_)
      intro b w1 hB1 hB2 hB3 hB4
      go_wp2_with fail
      refine (l01Ok_any b 0 g w1 hr (GAt.of_blk hB3)).mono ?_
      rw [HOK.out]
      rintro e w3 ⟨rfl, hb3⟩
      have hG := hB3.later hb3
      have HB := Lib.hid (hB4.trans (hb3.mono hB4.size))
      clear hB3 hB4 hb3
      go_wp2_with fail
      refine (l02Within_any _ w3).mono ?_
      rw [HAM.out]
      rintro e w4 ⟨rfl, hb4⟩
      have HB4 := Lib.hid (HB.out.trans (hb4.mono HB.out.size))
      clear hG hb4
      go_wp2_with fail
      go_ret2
      refine ⟨?_, HB4.out⟩
      unfold stillB stillC; rw [HOK.out, HAM.out]; rfl
    · have HAM := Lib.hid ham
      clear ham
      go_enter Try.func19, Try.ntmps19
      go_wp2_with (with_reducible refine wpList_box rfl ?_)
      intro b w1 hB1 hB2 hB3 hB4
      go_wp2_with fail
      refine (l01Ok_any b 0 g w1 hr (GAt.of_blk hB3)).mono ?_
      rw [HOK.out]
      rintro e w3 ⟨rfl, hb3⟩
      have hG := hB3.later hb3
      have HB := Lib.hid (hB4.trans (hb3.mono hB4.size))
      clear hB3 hB4 hb3
      go_wp2_with fail
      refine (l02Within_any _ w3).mono ?_
      rw [HAM.out]
      rintro e w4 ⟨rfl, hb4⟩
      have hG4 := hG.later hb4
      have HB4 := Lib.hid (HB.out.trans (hb4.mono HB.out.size))
      clear hG hb4
      go_wp2_with ((with_reducible refine wpList_getG hG4 ?_ ?_); rfl)
      refine (specStepAtOnce_any g w4 hr hx).mono ?_
      rintro e w5 ⟨go, r, rfl, hm5, hr5, hb5⟩
      have HR := Lib.hid hr5
      have HB5 := Lib.hid (HB4.out.trans (hb5.mono HB4.out.size))
      clear hb5 hG4 hm5 hr5
      go_wp2_with (first | (with_reducible refine wpList_new newF ?_) | (with_reducible refine wpList_zero (zeroF _) ?_) | (with_reducible refine wpList_new newG ?_) | (with_reducible refine wpList_zero (zeroG _) ?_))
      intro B w6 hC1 hC2 hC3 hC4
      go_wp2_with ((with_reducible refine wpList_putG (g := go) hC3 ?_ ?_ ?_); rfl; rfl)
      intro w7 s7 b7 k7
      have HB7 := Lib.hid (below_grown (HB5.out.trans (hC4.mono HB5.out.size)) k7 (Nat.le_trans HB5.out.size hC4.size) (by have := HB5.out.size; omega))
      clear hC3 hC4 b7 k7
      rcases hcc with hcc | hcc
      · have HCC := Lib.hid hcc
        rw [hcc]
        clear hcc
        go_wp2_with fail
        go_ret2
        refine ⟨?_, HB7.out⟩
        unfold stillB stillC; rw [HOK.out, HAM.out, HCC.out, ← HR.out.out]; rfl
      · have HCC := Lib.hid hcc
        rw [hcc]
        clear hcc
        go_wp2_with fail
        go_ret2
        refine ⟨?_, HB7.out⟩
        unfold stillB stillC; rw [HOK.out, HAM.out, HCC.out]; rfl

set_option maxRecDepth 100000 in
set_option maxHeartbeats 800000 in
theorem law_IsStill (g : G) (x : Nat) (w : World) (hr : g.Rng) (hx : g.Fx) :
    Calls Try.prog 4 #[.agg (arrG g), .float .f32 x] w (RetB true w) := by
  go_enter Try.func4, Try.ntmps4
  go_wp2_with (with_reducible refine wpList_box rfl ?_)
  intro A wA hA1 hA2 hA3 hA4
  go_wp2_with ((with_reducible refine wpList_getL hA3 ?_ ?_); rfl)
  refine (toGround_any g wA).mono ?_
  rintro e w1 ⟨rfl, hb1⟩
  go_wp2_with fail
  refine (specIsStill_any g x w1 hr hx).mono ?_
  rintro e w2 ⟨rfl, hb2⟩
  have HA2 := (hA3.later hb1).later hb2
  have HB2 := Lib.hid ((hA4.trans (hb1.mono hA4.size)).trans (hb2.mono (Nat.le_trans hA4.size hb1.size)))
  clear hA3 hA4 hb1 hb2
  go_wp2_with ((with_reducible refine wpList_getL HA2 ?_ ?_); rfl)
  refine (toGround_any g w2).mono ?_
  rintro e w5 ⟨rfl, hb5⟩
  go_wp2_with fail
  refine (IsStill_any g x w5 hr hx).mono ?_
  rintro e w6 ⟨rfl, hb6⟩
  have HB6 := Lib.hid ((HB2.out.trans (hb5.mono HB2.out.size)).trans (hb6.mono (Nat.le_trans HB2.out.size hb5.size)))
  clear hb5 hb6 HA2
  go_wp2_with fail
  go_ret
  exact ⟨rfl, HB6.out⟩
end Go.Proofs.Ytllblebicdeieaa
