/- The law on the salt in a brine: its walk. -/
import Derived.Test.YtfddjbpfahjleaaBrSalt
import Derived.Test.YtfddjbpfahjleaaBrTo
namespace Go.Proofs.Ytfddjbpfahjleaa
open Go.RowKit

set_option maxRecDepth 100000 in
set_option maxHeartbeats 1600000 in
theorem law_SaltIn (x : Br) (w : World) (hr : x.gr.Rng) (hx : x.gr.Fx) :
    Calls Try.prog 4 #[.agg (arrB x)] w (RetB true w) := by
  go_enter Try.func4, Try.ntmps4
  go_wp2_with (with_reducible refine wpList_box rfl ?_)
  intro A wA hA1 hA2 hA3 hA4
  go_wp2_with ((with_reducible refine wpList_getLB hA3 ?_ ?_); rfl)
  refine (toBrine_any x wA).mono ?_
  rintro e w1 ⟨rfl, hb1⟩
  go_wp2_with fail
  refine (specSaltIn_any x w1 hr hx).mono ?_
  rintro e w2 ⟨ra, rfl, hrra, hb2⟩
  have HA2 := (hA3.later hb1).later hb2
  have HB2 := Lib.hid ((hA4.trans (hb1.mono hA4.size)).trans (hb2.mono (Nat.le_trans hA4.size hb1.size)))
  clear hA3 hA4 hb1 hb2
  go_wp2_with ((with_reducible refine wpList_getLB HA2 ?_ ?_); rfl)
  refine (toBrine_any x w2).mono ?_
  rintro e w5 ⟨rfl, hb5⟩
  go_wp2_with fail
  refine (SaltIn_any x w5 hr hx).mono ?_
  rintro e w6 ⟨rb, rfl, hrrb, hb6⟩
  have HB6 := Lib.hid ((HB2.out.trans (hb5.mono HB2.out.size)).trans (hb6.mono (Nat.le_trans HB2.out.size hb5.size)))
  have HR := Lib.hid (hrrb.out.trans hrra.out.symm)
  clear hb5 hb6 HA2 hrra hrrb
  go_wp2_with ((with_reducible refine wpList_wideG ?_ ?_ ?_ ?_ ?_); (exact rfl); (exact rfl); (exact Try.underlying39); (exact rfl); intro d n hd)
  rename_i d1 n1 hd1 _ _
  refine (sameFloat_any _ _ _ (by rw [hd1.out, hd.out]; exact congrArg wid HR.out)).mono ?_
  rintro e w10 ⟨rfl, hb10⟩
  have HB10 := Lib.hid ((below_drawn HB6.out _).trans (hb10.mono HB6.out.size))
  clear hb10
  go_wp2_with fail
  go_ret
  exact ⟨rfl, HB10.out⟩

end Go.Proofs.Ytfddjbpfahjleaa
