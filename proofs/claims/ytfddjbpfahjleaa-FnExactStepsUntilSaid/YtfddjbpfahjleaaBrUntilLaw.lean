/- The law on steps until a cell has so much salt: its walk. -/
import Derived.Test.YtfddjbpfahjleaaBrUntil
namespace Go.Proofs.Ytfddjbpfahjleaa
open Go.RowKit

set_option maxRecDepth 100000 in
set_option maxHeartbeats 1600000 in
theorem law_StepsUntil (x : Br) (t : Nat) (z : Int) (lv : Nat) (most : Int) (w : World) (hr : x.gr.Rng) (hx : x.gr.Fx) :
    Calls Try.prog 12 #[.agg (arrB x), .float .f32 t, .int .i64 z, .float .f32 lv, .int .i64 most] w (RetB true w) := by
  obtain ⟨rr, hrr⟩ : ∃ rr, untilB x.n (fb t) (fb lv) z most = rr := ⟨_, rfl⟩
  have HRR := Lib.hid hrr
  clear hrr
  obtain ⟨q1, q2⟩ := rr
  go_enter Try.func12, Try.ntmps12
  go_wp2_with (with_reducible refine wpList_box rfl ?_)
  intro A wA hA1 hA2 hA3 hA4
  go_wp2_with ((with_reducible refine wpList_getLB hA3 ?_ ?_); rfl)
  refine (toBrine_any x wA).mono ?_
  rintro e w1 ⟨rfl, hb1⟩
  go_wp2_with fail
  refine (specStepsUntil_any x t lv z most w1 hr hx).mono ?_
  rw [HRR.out]
  rintro e w2 ⟨rfl, hb2⟩
  have HA2 := (hA3.later hb1).later hb2
  have HB2 := Lib.hid ((hA4.trans (hb1.mono hA4.size)).trans (hb2.mono (Nat.le_trans hA4.size hb1.size)))
  clear hA3 hA4 hb1 hb2
  go_wp2_with ((with_reducible refine wpList_getLB HA2 ?_ ?_); rfl)
  refine (toBrine_any x w2).mono ?_
  rintro e w5 ⟨rfl, hb5⟩
  go_wp2_with fail
  refine (StepsUntil_any x t lv z most w5 hr hx).mono ?_
  rw [HRR.out]
  rintro e w6 ⟨rfl, hb6⟩
  have HB6 := Lib.hid ((HB2.out.trans (hb5.mono HB2.out.size)).trans (hb6.mono (Nat.le_trans HB2.out.size hb5.size)))
  clear hb5 hb6 HA2
  go_wp2_with fail
  go_ret
  exact ⟨rfl, HB6.out⟩

end Go.Proofs.Ytfddjbpfahjleaa
