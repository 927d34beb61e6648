/- The numbers that settling takes: within, and how many sweeps at most. -/
import Derived.Test.YtfcphfdfpjmgiaaOk
namespace Go.Proofs.Ytfcphfdfpjmgiaa
open Go.RowKit

set_option maxHeartbeats 400000 in
theorem l02Within_any (a : Nat) (w : World) : Calls Try.prog 95 #[.float .f32 a] w (RetB (amount (fb a)) w) := by
  have hgt := order_gt
  have heq := order_eq
  cases hp : plain (fb a)
  · have HP := Lib.hid hp
    clear hp
    go_enter Try.func95, Try.ntmps95
    go_wp2_with (go_at_call 118; refine (l01Plain_any _ _).mono ?_; rw [HP.out]; rintro e w' ⟨rfl, hb⟩)
    all_goals
      go_ret
      refine ⟨ret_bool ?_, by assumption⟩
      unfold amount; rw [HP.out]; rfl
  · have HP := Lib.hid hp
    clear hp
    go_enter Try.func95, Try.ntmps95
    go_wp2_with (go_at_call 118; refine (l01Plain_any _ _).mono ?_; rw [HP.out]; rintro e w' ⟨rfl, hb⟩)
    all_goals
      go_ret
      refine ⟨ret_bool ?_, by assumption⟩
      unfold amount; rw [HP.out]; simp only [fb0, fge] at *; simp [*]

set_option maxHeartbeats 400000 in
theorem settleOk_any (x : Nat) (most : Int) (w : World) :
    Calls Try.prog 92 #[.float .f32 x, .int .i64 most] w (RetB (amount (fb x) && (decide (0 ≤ most) && decide (most ≤ 2000))) w) := by
  cases ham : amount (fb x)
  · have HAM := Lib.hid ham
    clear ham
    go_enter Try.func92, Try.ntmps92
    go_wp2_with (go_at_call 105; refine (isAmount_any x _).mono ?_; rw [HAM.out]; rintro e w1 ⟨rfl, hb1⟩)
    go_ret
    exact ⟨rfl, by assumption⟩
  · have HAM := Lib.hid ham
    clear ham
    go_enter Try.func92, Try.ntmps92
    go_wp2_with (first | (go_at_call 105; refine (isAmount_any x _).mono ?_; rw [HAM.out]; rintro e w1 ⟨rfl, hb1⟩) | (go_at_call 103; refine (in_any _ _ _ _).mono ?_; rintro e w' ⟨rfl, rfl⟩))
    go_ret
    exact ⟨rfl, by assumption⟩
end Go.Proofs.Ytfcphfdfpjmgiaa
