/- The law on reversed brines: its walk. -/
import Derived.Test.YtfddjbpfahjleaaBrRev
namespace Go.Proofs.Ytfddjbpfahjleaa
open Go.RowKit

set_option maxRecDepth 100000 in
set_option maxHeartbeats 1600000 in
theorem law_ReverseBrine (x : Br) (w : World) (hr : x.gr.Rng) (hx : x.gr.Fx) :
    Calls Try.prog 6 #[.agg (arrB x)] w (RetB true w) := by
  go_enter Try.func6, Try.ntmps6
  go_wp2_with (with_reducible refine wpList_box rfl ?_)
  intro A wA hA1 hA2 hA3 hA4
  go_wp2_with ((with_reducible refine wpList_getLB hA3 ?_ ?_); rfl)
  refine (toBrine_any x wA).mono ?_
  rintro e w1 ⟨rfl, hb1⟩
  go_wp2_with fail
  refine (specReverseBrine_any x w1 hr hx).mono ?_
  rintro e w2 ⟨ya, rfl, hma, hb2⟩
  have HA2 := (hA3.later hb1).later hb2
  have HB2 := Lib.hid ((hA4.trans (hb1.mono hA4.size)).trans (hb2.mono (Nat.le_trans hA4.size hb1.size)))
  clear hA3 hA4 hb1 hb2
  go_wp2_with (with_reducible refine wpList_new newB ?_)
  intro B w3 hB1 hB2 hB3 hB4
  have HA3 := HA2.later hB4
  go_wp2_with ((with_reducible refine wpList_putB (x := ya) hB3 ?_ ?_ ?_); rfl; rfl)
  intro w4 s4 b4 k4
  have HA4 := HA3.grown k4 (by have := HA2.lt; omega)
  have HB4 := Lib.hid (below_grown (HB2.out.trans (hB4.mono HB2.out.size)) k4 (Nat.le_trans HB2.out.size hB4.size) (by have := HB2.out.size; omega))
  clear hB3 hB4 HA2 HA3 k4
  go_wp2_with ((with_reducible refine wpList_getLB HA4 ?_ ?_); rfl)
  refine (toBrine_any x w4).mono ?_
  rintro e w5 ⟨rfl, hb5⟩
  go_wp2_with fail
  refine (ReverseBrine_any x w5 hr hx).mono ?_
  rintro e w6 ⟨yb, rfl, hmb, hb6⟩
  have HB6 := Lib.hid ((HB4.out.trans (hb5.mono HB4.out.size)).trans (hb6.mono (Nat.le_trans HB4.out.size hb5.size)))
  have BB6 := (b4.later hb5).later hb6
  clear hb5 hb6 b4 HA4
  go_wp2_with (with_reducible refine wpList_new newB ?_)
  intro C w7 hC1 hC2 hC3 hC4
  have BB7 := BB6.later hC4
  go_wp2_with ((with_reducible refine wpList_putB (x := yb) hC3 ?_ ?_ ?_); rfl; rfl)
  intro w8 s8 b8 k8
  have BB8 := BB7.grown k8 (by have := BB6.lt; omega)
  have HB8 := Lib.hid (below_grown (HB6.out.trans (hC4.mono HB6.out.size)) k8 (Nat.le_trans HB6.out.size hC4.size) (by have := HB6.out.size; omega))
  have HE := Lib.hid (hmb.trans hma.symm)
  clear hC3 hC4 BB6 BB7 k8 hma hmb
  go_wp2_with (first | ((with_reducible refine wpList_getB b8 ?_ ?_); rfl) | ((with_reducible refine wpList_getB BB8 ?_ ?_); rfl))
  refine (eqBrine_any yb ya w8 HE.out).mono ?_
  rintro e w9 ⟨rfl, hb9⟩
  have HB9 := Lib.hid (HB8.out.trans (hb9.mono HB8.out.size))
  clear hb9 b8 BB8
  go_wp2_with fail
  go_ret
  exact ⟨rfl, HB9.out⟩

end Go.Proofs.Ytfddjbpfahjleaa
