/- The law on a basin: its walk. -/
import Derived.Test.YtllblebicdeieaaWater
namespace Go.Proofs.Ytllblebicdeieaa
open Go.RowKit

set_option maxRecDepth 100000 in
set_option maxHeartbeats 800000 in
theorem law_BasinOf (g : G) (z : Int) (w : World) (hr : g.Rng) (hx : g.Fx) :
    Calls Try.prog 6 #[.agg (arrG g), .int .i64 z] w (RetB true w) := by
  obtain ⟨c, hc⟩ : ∃ c, askC g.m z = c := ⟨_, rfl⟩
  have HC := Lib.hid hc
  obtain ⟨x, hx'⟩ : ∃ x, basL g.m z = x := ⟨_, rfl⟩
  have HX := Lib.hid hx'
  clear hc hx'
  go_enter Try.func6, Try.ntmps6
  go_wp2_with (with_reducible refine wpList_box rfl ?_)
  intro A wA hA1 hA2 hA3 hA4
  go_wp2_with ((with_reducible refine wpList_getL hA3 ?_ ?_); rfl)
  refine (toGround_any g wA).mono ?_
  rintro e w1 ⟨rfl, hb1⟩
  go_wp2_with fail
  refine (specBasinOf_any g z w1 hr hx).mono ?_
  rw [HC.out, HX.out]
  rintro e w2 ⟨rfl, hb2⟩
  have HA2 := (hA3.later hb1).later hb2
  have HB2 := Lib.hid ((hA4.trans (hb1.mono hA4.size)).trans (hb2.mono (Nat.le_trans hA4.size hb1.size)))
  clear hA3 hA4 hb1 hb2
  go_wp2_with ((with_reducible refine wpList_getL HA2 ?_ ?_); rfl)
  refine (toGround_any g w2).mono ?_
  rintro e w5 ⟨rfl, hb5⟩
  go_wp2_with fail
  refine (BasinOf_any g z w5 hr hx).mono ?_
  rw [HC.out, HX.out]
  rintro e w6 ⟨rfl, hb6⟩
  have HB6 := Lib.hid ((HB2.out.trans (hb5.mono HB2.out.size)).trans (hb6.mono (Nat.le_trans HB2.out.size hb5.size)))
  clear hb5 hb6 HA2
  go_wp2_with fail
  go_ret
  exact ⟨rfl, HB6.out⟩
end Go.Proofs.Ytllblebicdeieaa
