/- Whether two numbers are the same, by the reference: equal ones are told as equal. -/
import Derived.Test.YtfcphfdfpjmgiaaLM0
namespace Go.Proofs.Ytfcphfdfpjmgiaa
open Go.RowKit

theorem fb_none {a : Nat} (h : fb a = none) (x : Nat) : FloatKind.f32.format.order a x = none := by
  have hn : (Ieee.single.read a).isNaN = true := by
    unfold fb fbOf at h
    split at h
    · assumption
    · cases h
  show Ieee.single.order a x = none
  unfold Ieee.Format.order
  exact order_nan_l hn
theorem fb_some {a b : Nat} (h : fb a = some b) : a = b ∧ FloatKind.f32.format.order a a = some .eq := by
  unfold fb fbOf at h
  split at h
  · cases h
  · rename_i hn
    cases h
    refine ⟨rfl, ?_⟩
    show Ieee.single.order a a = _
    unfold Ieee.Format.order
    exact order_self (by simpa using hn)
theorem run_f32bits (d : Nat) (w : World) : (callFunc 180 #[.float .f32 d]).run Try.prog w = .ok (.value (.int .u32 d)) w := by
  rw [run_callFunc_extern (e := Extern.MathFloatBits.float32bits) Try.func180 (by kernel_rfl) (by kernel_rfl) (by kernel_rfl) (by kernel_rfl)]
  rfl

set_option maxHeartbeats 400000 in
theorem l01Same_eq (a b : Nat) (w : World) (h : fb a = fb b) :
    Calls Try.prog 113 #[.float .f32 a, .float .f32 b] w fun e w' => e = .returned (.bool true) ∧ w = w' := by
  cases hb : fb b with
  | none =>
    have h1 := fb_none (h.trans hb) a
    have h2 := fb_none hb b
    clear h hb
    go_enter Try.func113, Try.ntmps113
    go_wp2_with fail
    go_ret
    exact ⟨rfl, rfl⟩
  | some c =>
    obtain ⟨rfl, h1⟩ := fb_some (h.trans hb)
    obtain ⟨rfl, _⟩ := fb_some hb
    clear h hb
    have h3 := run_f32bits
    go_enter Try.func113, Try.ntmps113
    go_wp2_with fail
    go_ret
    exact ⟨rfl, rfl⟩

set_option maxHeartbeats 400000 in
theorem SameNumber_eq (a b : Nat) (w : World) (h : fb a = fb b) :
    Calls Try.prog 23 #[.float .f32 a, .float .f32 b] w fun e w' => e = .returned (.bool true) ∧ w = w' := by
  go_enter Try.func23, Try.ntmps23
  go_wp2_with fail
  refine (l01Same_eq a b w h).mono ?_
  rintro e w1 ⟨rfl, rfl⟩
  go_wp2_with fail
  go_ret
  exact ⟨rfl, rfl⟩
end Go.Proofs.Ytfcphfdfpjmgiaa
