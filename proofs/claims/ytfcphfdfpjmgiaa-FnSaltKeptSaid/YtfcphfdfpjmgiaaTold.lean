/- A number told with a code. -/
import Derived.Test.YtfcphfdfpjmgiaaLM0
namespace Go.Proofs.Ytfcphfdfpjmgiaa
open Go.RowKit

/-- A whole number, a float and a code are handed back. -/
def RetIFI (t : Int × F × Int) (w : World) (e : Ending) (w' : World) : Prop :=
  ∃ r, e = .returned (.tuple #[.int .i64 t.1, .float .f32 r, .int .i64 t.2.2]) ∧ Is r t.2.1 ∧ Below w.heap.size w w'

set_option maxHeartbeats 400000 in
theorem told_any (a : Nat) (x : F) (w : World) (ha : Is a x) :
    Calls Try.prog 115 #[.float .f32 a] w (RetFI (if fin x then x else some 0) (if fin x then 0 else 4) w) := by
  cases hf : fin x
  · have HF := Lib.hid hf
    clear hf
    go_enter Try.func115, Try.ntmps115
    go_wp2_with fail
    refine (finite_any a x w ha).mono ?_
    rw [HF.out]
    rintro e w1 ⟨rfl, hb1⟩
    have HB := Lib.hid hb1
    clear hb1
    go_wp2_with fail
    go_ret2
    exact ⟨0, rfl, fb0, HB.out⟩
  · have HF := Lib.hid hf
    clear hf
    go_enter Try.func115, Try.ntmps115
    go_wp2_with fail
    refine (finite_any a x w ha).mono ?_
    rw [HF.out]
    rintro e w1 ⟨rfl, hb1⟩
    have HB := Lib.hid hb1
    clear hb1
    go_wp2_with fail
    go_ret2
    exact ⟨a, rfl, ha, HB.out⟩
end Go.Proofs.Ytfcphfdfpjmgiaa
