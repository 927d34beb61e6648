/- The law on a ground that is pumped: its walk. -/
import Derived.Test.YtfcphfdfpjmgiaaPump
import Derived.Test.YtfcphfdfpjmgiaaEqG
namespace Go.Proofs.Ytfcphfdfpjmgiaa
open Go.RowKit

set_option maxRecDepth 100000 in
set_option maxHeartbeats 3200000 in
theorem law_PumpAt (g : G) (z : Int) (rr x : Nat) (most : Int) (w : World) (hr : g.Rng) (hx : g.Fx) :
    Calls Try.prog 10 #[.agg (arrG g), .int .i64 z, .float .f32 rr, .float .f32 x, .int .i64 most] w (RetB true w) := by
  go_enter Try.func10, Try.ntmps10
  go_wp2_with (with_reducible refine wpList_box rfl ?_)
  intro A wA hA1 hA2 hA3 hA4
  go_wp2_with ((with_reducible refine wpList_getL hA3 ?_ ?_); rfl)
  refine (toGround_any g wA).mono ?_
  rintro e w1 ⟨rfl, hb1⟩
  go_wp2_with fail
  refine (specPumpAt_any g z rr x most w1 hr hx).mono ?_
  rintro e w2 ⟨ga, fa, rfl, hga, hfa, hb2⟩
  have HA2 := (hA3.later hb1).later hb2
  have HB2 := Lib.hid (below_thru (below_thru hA4 hb1) hb2)
  clear hA3 hA4 hb1 hb2
  go_wp2_with (with_reducible refine wpList_new newG ?_)
  intro Ga w3 hG1 hG2 hG3 hG4
  go_wp2_with (with_reducible refine wpList_new newF ?_)
  intro Fa w4 hF1 hF2 hF3 hF4
  have HA4 := (HA2.later hG4).later hF4
  have hG4' := hG3.later hF4
  have hAG : A < Ga := by have := HA2.lt; omega
  have hGF : Ga < Fa := by omega
  have hwG : w.heap.size ≤ Ga := by have := HB2.out.size; omega
  have HB4 := Lib.hid (below_thru (below_thru HB2.out hG4) hF4)
  clear hG3 hG4 hF4 HA2
  go_wp2_with ((with_reducible refine wpList_putG (g := ga) hG4' ?_ ?_ ?_); rfl; rfl)
  intro w5 s5 b5 k5
  have HA5 := HA4.grown k5 (by omega)
  have hF5 := hF3.grown k5 (by omega)
  have HB5 := Lib.hid (below_grown HB4.out k5 HB4.out.size hwG)
  clear HA4 hG4' hF3 k5 s5
  go_wp2_with ((with_reducible refine wpList_putF (f := fa) hF5 ?_ ?_ ?_); rfl; rfl)
  intro w6 s6 b6 k6
  have HA6 := HA5.grown k6 (by omega)
  have HG6 := b5.grown k6 (by omega)
  have HB6 := Lib.hid (below_grown HB5.out k6 HB5.out.size (by omega))
  have hFl : Fa < w6.heap.size := b6.lt
  clear HA5 hF5 b5 k6 s6
  go_wp2_with ((with_reducible refine wpList_getL HA6 ?_ ?_); rfl)
  refine (toGround_any g w6).mono ?_
  rintro e w7 ⟨rfl, hb7⟩
  go_wp2_with fail
  refine (PumpAt_any g z rr x most w7 hr hx).mono ?_
  rintro e w8 ⟨gb, fbb, rfl, hgb, hfb, hb8⟩
  have HG8 := (HG6.later hb7).later hb8
  have HF8 := (b6.later hb7).later hb8
  have HB8 := Lib.hid (below_thru (below_thru HB6.out hb7) hb8)
  have hs7 := hb7.size
  have hs8 := hb8.size
  have hw8 : w.heap.size ≤ w8.heap.size := HB8.out.size
  clear hb7 hb8 HG6 HA6 b6
  go_wp2_with (with_reducible refine wpList_new newG ?_)
  intro Gb w9 hH1 hH2 hH3 hH4
  go_wp2_with (with_reducible refine wpList_new newF ?_)
  intro Fb w10 hI1 hI2 hI3 hI4
  have HG10 := (HG8.later hH4).later hI4
  have HF10 := (HF8.later hH4).later hI4
  have hH4' := hH3.later hI4
  have hFG : Fa < Gb := by omega
  have hGFb : Gb < Fb := by omega
  have HB10 := Lib.hid (below_thru (below_thru HB8.out hH4) hI4)
  clear hH3 hH4 hI4 HG8 HF8
  go_wp2_with ((with_reducible refine wpList_putG (g := gb) hH4' ?_ ?_ ?_); rfl; rfl)
  intro w11 s11 b11 k11
  have HG11 := HG10.grown k11 (by omega)
  have HF11 := HF10.grown k11 (by omega)
  have hI11 := hI3.grown k11 (by omega)
  have HB11 := Lib.hid (below_grown HB10.out k11 HB10.out.size (by omega))
  clear HG10 HF10 hH4' hI3 k11 s11
  go_wp2_with ((with_reducible refine wpList_putF (f := fbb) hI11 ?_ ?_ ?_); rfl; rfl)
  intro w12 s12 b12 k12
  have HG12 := HG11.grown k12 (by omega)
  have HF12 := HF11.grown k12 (by omega)
  have HH12 := b11.grown k12 (by omega)
  have HB12 := Lib.hid (below_grown HB11.out k12 HB11.out.size (by omega))
  have HEG := Lib.hid (hgb.trans hga.symm)
  have HEF := Lib.hid (hfb.trans hfa.symm)
  clear HG11 HF11 hI11 b11 k12 s12 hga hgb hfa hfb
  go_wp2_with (first | ((with_reducible refine wpList_getG HH12 ?_ ?_); rfl) | ((with_reducible refine wpList_getG HG12 ?_ ?_); rfl))
  refine (eqGround_any gb ga w12 HEG.out).mono ?_
  rintro e w13 ⟨rfl, hb13⟩
  have HF13 := HF12.later hb13
  have HI13 := b12.later hb13
  have HB13 := Lib.hid (below_thru HB12.out hb13)
  clear hb13 HG12 HF12 HH12 b12
  go_wp2_with (first | ((with_reducible refine wpList_getFgd ?_ HI13 ?_ ?_); (exact rfl); rfl) | ((with_reducible refine wpList_getFgd ?_ HF13 ?_ ?_); (exact rfl); rfl))
  refine (eqField_any fbb fa w13 HEF.out).mono ?_
  rintro e w14 ⟨rfl, hb14⟩
  have HB14 := Lib.hid (below_thru HB13.out hb14)
  clear hb14 HF13 HI13
  go_wp2_with fail
  go_ret
  exact ⟨rfl, HB14.out⟩
end Go.Proofs.Ytfcphfdfpjmgiaa
