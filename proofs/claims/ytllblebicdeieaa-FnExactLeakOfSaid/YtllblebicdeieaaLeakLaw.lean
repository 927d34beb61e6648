/- The law on the leak of a ground: its walk. -/
import Derived.Test.YtllblebicdeieaaLeak
namespace Go.Proofs.Ytllblebicdeieaa
open Go.RowKit

set_option maxRecDepth 100000 in
set_option maxHeartbeats 800000 in
theorem law_LeakOf (g : G) (w : World) (hr : g.Rng) (hx : g.Fx) :
    Calls Try.prog 8 #[.agg (arrG g)] w (RetB true w) := by
  go_enter Try.func8, Try.ntmps8
  go_wp2_with (with_reducible refine wpList_box rfl ?_)
  intro A wA hA1 hA2 hA3 hA4
  go_wp2_with ((with_reducible refine wpList_getL hA3 ?_ ?_); rfl)
  refine (toGround_any g wA).mono ?_
  rintro e w1 ⟨rfl, hb1⟩
  go_wp2_with fail
  refine (specLeakOf_any g w1 hr hx).mono ?_
  rintro e w2 ⟨r, rfl, hrr, hb2⟩
  have HA2 := (hA3.later hb1).later hb2
  have HB2 := Lib.hid ((hA4.trans (hb1.mono hA4.size)).trans (hb2.mono (Nat.le_trans hA4.size hb1.size)))
  clear hA3 hA4 hb1 hb2
  go_wp2_with ((with_reducible refine wpList_getL HA2 ?_ ?_); rfl)
  refine (toGround_any g w2).mono ?_
  rintro e w5 ⟨rfl, hb5⟩
  go_wp2_with fail
  refine (LeakOf_any g w5 hr hx).mono ?_
  rintro e w6 ⟨r', rfl, hrr', hb6⟩
  have HB6 := Lib.hid ((HB2.out.trans (hb5.mono HB2.out.size)).trans (hb6.mono (Nat.le_trans HB2.out.size hb5.size)))
  have HR := Lib.hid (hrr'.out.trans hrr.out.symm)
  clear hb5 hb6 HA2 hrr hrr'
  go_wp2_with ((with_reducible refine wpList_wideG ?_ ?_ ?_ ?_ ?_); (exact rfl); (exact rfl); (exact Try.underlying50); (exact rfl); intro d n hd)
  rename_i d1 n1 hd1 _ _
  refine (sameFloat_any _ _ _ (by rw [hd1.out, hd.out]; exact congrArg wid HR.out)).mono ?_
  rintro e w10 ⟨rfl, hb10⟩
  have HB10 := Lib.hid ((below_drawn HB6.out _).trans (hb10.mono HB6.out.size))
  clear hb10
  go_wp2_with fail
  go_ret
  exact ⟨rfl, HB10.out⟩
end Go.Proofs.Ytllblebicdeieaa
