/- The law on drawdowns at all cells: its walk. -/
import Derived.Test.YtbhnnglpakdigaaWfield
namespace Go.Proofs.Ytbhnnglpakdigaa
open Go.RowKit

set_option maxRecDepth 100000 in
set_option maxHeartbeats 3200000 in
theorem law_FieldAfter (T S : Nat) (v : Value) (l : List We) (t : Int) (w : World) (hlen : l.length < 9223372036854775808) (hv : LAt w v l) :
    Calls Try.prog 9 #[.agg #[.float .f32 T, .float .f32 S], v, .int .i64 t] w (RetB true w) := by
  have hrng := hv.rng
  by_cases hsz : l.length ≤ 1048576
  · obtain ⟨r1, h1⟩ : ∃ r, fldF T S l t = r := ⟨_, rfl⟩
    obtain ⟨r2, h2⟩ : ∃ r, askW (okA (fb T) (fb S)) l 0 0 [t] = r := ⟨_, rfl⟩
    have H1 := Lib.hid h1
    have H2 := Lib.hid h2
    clear h1 h2
    have n0 : ¬ (1048576 : Int) - (l.length : Int) < 0 := by omega
    go_enter Try.func9, Try.ntmps9
    go_wp2_with (with_reducible refine wpList_box rfl ?_)
    intro bA wA hA1 hA2 hA3 hA4
    have HG := Lib.hid hA3
    have HB := Lib.hid hA4
    have HV := Lib.hid (hv.far hA4)
    clear hA3 hA4
    go_wp2_with fail
    refine (szWellS_any v l _ hlen HV.out).mono ?_
    rw [if_pos hsz]
    rintro e w' ⟨rfl, rfl⟩
    go_wp2_with ((with_reducible refine wpList_get HG.out Try.underlying24 rfl (by kernel_rfl) ?_ ?_); rfl)
    refine (toAquifer_any T S wA).mono ?_
    rintro e w2 ⟨rfl, hb2⟩
    have HB2 := Lib.hid (below_next HB.out hb2)
    have HG2 := Lib.hid (HG.out.later hb2)
    have HV2 := Lib.hid (HV.out.far hb2)
    clear hb2
    go_wp2_with fail
    refine (toWellS_any v l w2 hsz HV2.out).mono ?_
    rintro e w3 ⟨B3, rfl, hB3, hW3, hb3⟩
    have HB3 := Lib.hid (below_next HB2.out hb3)
    have HG3 := Lib.hid (HG2.out.later hb3)
    have HV3 := Lib.hid (HV2.out.far hb3)
    clear hb3
    go_wp2_with fail
    refine (specFieldAfter_any T S _ l t _ hsz (hW3.wat hrng)).mono ?_
    rw [H1.out, H2.out]
    rintro e w4 ⟨fa, rfl, hra, hb4⟩
    clear hW3
    go_wp2_with (first | (with_reducible refine wpList_new newF ?_) | (with_reducible refine wpList_zero (zeroF _) ?_))
    intro F8 y1 p1 p2 p3 p4
    go_wp2_with ((with_reducible refine wpList_putF (f := fa) p3 ?_ ?_ ?_); rfl; rfl)
    intro z4 s4 b4 k4
    have HX4 := Lib.hid (below_next (below_next HB3.out hb4) p4)
    have HB4 := Lib.hid (below_grown HX4.out k4 HX4.out.size (by have := HB3.out.size; have := hb4.size; omega))
    have HG4 := Lib.hid (((HG3.out.later hb4).later p4).grown k4 (by have := (HG3.out.later hb4).lt; omega))
    have HVX := Lib.hid (below_next (Below.refl _ _) (below_next (a := w3) hb4 p4))
    have HA4 := Lib.hid (below_grown HVX.out k4 HVX.out.size (by have := hb4.size; omega))
    have HV4 := Lib.hid (HV3.out.far HA4.out)
    have HF4 := Lib.hid b4
    clear hb4 p3 p4 b4 k4
    go_wp2_with fail
    refine (toWellS_any v l z4 hsz HV4.out).mono ?_
    rintro e w5 ⟨B5, rfl, hB5, hW5, hb5⟩
    have HB5 := Lib.hid (below_next HB4.out hb5)
    have HG5 := HG4.out.later hb5
    have HF5 := Lib.hid (HF4.out.later hb5)
    have HV5 := Lib.hid (HV4.out.far hb5)
    clear hb5
    go_wp2_with ((with_reducible refine wpList_get HG5 Try.underlying24 rfl (by kernel_rfl) ?_ ?_); rfl)
    refine (toAquifer_any T S w5).mono ?_
    rintro e w6 ⟨rfl, hb6⟩
    have HB6 := Lib.hid (below_next HB5.out hb6)
    have HV6 := Lib.hid (HV5.out.far hb6)
    have HW6 := Lib.hid (hW5.far hb6)
    have HF6 := Lib.hid (HF5.out.later hb6)
    have hB5 : B5 < w5.heap.size := by obtain ⟨cur, hc, _⟩ := hW5; exact hc.lt
    have hs6 := hb6.size
    clear hb6 hW5 HG5
    go_wp2_with fail
    refine (FieldAfter_any T S _ l t _ hsz (HW6.out.wat hrng)).mono ?_
    rw [H1.out, H2.out]
    rintro e w7 ⟨fc, rfl, hrb, hb7⟩
    go_wp2_with (first | (with_reducible refine wpList_new newF ?_) | (with_reducible refine wpList_zero (zeroF _) ?_))
    intro F11 y7 p1' p2' p3' p4'
    go_wp2_with ((with_reducible refine wpList_putF (f := fc) p3' ?_ ?_ ?_); rfl; rfl)
    intro z7 s7 b7 k7
    have HX7 := Lib.hid (below_next (below_next HB6.out hb7) p4')
    have HB7 := Lib.hid (below_grown HX7.out k7 HX7.out.size (by have := HB6.out.size; have := hb7.size; omega))
    have HVY := Lib.hid (below_next (a := w6) hb7 p4')
    have HA7 := Lib.hid (below_grown HVY.out k7 HVY.out.size (by have := hb7.size; omega))
    have HV7 := Lib.hid (HV6.out.far HA7.out)
    have HW7 := Lib.hid (HW6.out.far HA7.out)
    have HF7 := HF6.out.later HA7.out
    have HE := Lib.hid (hrb.trans hra.symm)
    clear hb7 p3' p4' k7 hra hrb
    go_wp2_with (first | ((with_reducible refine wpList_getF b7 ?_ ?_); rfl) | ((with_reducible refine wpList_getF HF7 ?_ ?_); rfl))
    refine (eqField_any _ _ z7 HE.out).mono ?_
    rintro e w8 ⟨rfl, hb8⟩
    clear b7 HF7
    have HB8 := Lib.hid (below_next HB7.out hb8)
    have HV8 := Lib.hid (HV7.out.far (below_next (Below.refl _ _) hb8))
    have HW8 := Lib.hid (HW7.out.far (below_next (Below.refl _ _) hb8))
    clear hb8
    go_wp2_with fail
    refine (toWellS_any v l w8 hsz HV8.out).mono ?_
    rintro e w9 ⟨B9, rfl, hB9, hW9, hb9⟩
    have HB9 := Lib.hid (below_next HB8.out hb9)
    have HW8b := HW8.out.far hb9
    clear hb9
    go_wp2_with fail
    refine (eqWellS_any _ _ l w9 hsz (HW8b.wat hrng) (hW9.wat hrng)).mono ?_
    rintro e w10 ⟨rfl, hb10⟩
    have HB10 := Lib.hid (below_next HB9.out hb10)
    clear hb10 hW9 HW8b
    go_wp2_with fail
    go_ret
    exact ⟨rfl, HB10.out⟩
  · have n0 : ((-1 : Int) < 0) := by decide
    go_enter Try.func9, Try.ntmps9
    go_wp2_with (with_reducible refine wpList_box rfl ?_)
    intro bA wA hA1 hA2 hA3 hA4
    have HB := Lib.hid hA4
    have HV := Lib.hid (hv.far hA4)
    clear hA3 hA4
    go_wp2_with fail
    refine (szWellS_any v l _ hlen HV.out).mono ?_
    rw [if_neg hsz]
    rintro e w' ⟨rfl, rfl⟩
    go_wp2_with fail
    go_ret
    exact ⟨rfl, HB.out⟩
end Go.Proofs.Ytbhnnglpakdigaa
