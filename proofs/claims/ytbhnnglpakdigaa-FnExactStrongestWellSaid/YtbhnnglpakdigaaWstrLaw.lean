/- The law on the strongest well: its walk. -/
import Derived.Test.YtbhnnglpakdigaaWstr
namespace Go.Proofs.Ytbhnnglpakdigaa
open Go.RowKit

set_option maxRecDepth 100000 in
set_option maxHeartbeats 3200000 in
theorem law_StrongestWell (T S : Nat) (v : Value) (l : List We) (x y t : Int) (w : World) (hlen : l.length < 9223372036854775808) (hv : LAt w v l) :
    Calls Try.prog 11 #[.agg #[.float .f32 T, .float .f32 S], v, .int .i64 x, .int .i64 y, .int .i64 t] w (RetB true w) := by
  have hrng := hv.rng
  by_cases hsz : l.length ≤ 1048576
  · obtain ⟨rr, hrr⟩ : ∃ rr, strR T S l x y t = rr := ⟨_, rfl⟩
    have HRR := Lib.hid hrr
    clear hrr
    obtain ⟨r0, r1, r2⟩ := rr
    have n0 : ¬ (1048576 : Int) - (l.length : Int) < 0 := by omega
    go_enter Try.func11, Try.ntmps11
    go_wp2_with (with_reducible refine wpList_box rfl ?_)
    intro bA wA hA1 hA2 hA3 hA4
    have HG := Lib.hid hA3
    have HB := Lib.hid hA4
    have HV := Lib.hid (hv.far hA4)
    clear hA3 hA4
    go_wp2_with fail
    refine (szWellS_any v l _ hlen HV.out).mono ?_
    rw [if_pos hsz]
    rintro e w' ⟨rfl, rfl⟩
    go_wp2_with ((with_reducible refine wpList_get HG.out Try.underlying24 rfl (by kernel_rfl) ?_ ?_); rfl)
    refine (toAquifer_any T S wA).mono ?_
    rintro e w2 ⟨rfl, hb2⟩
    have HB2 := Lib.hid (below_next HB.out hb2)
    have HG2 := Lib.hid (HG.out.later hb2)
    have HV2 := Lib.hid (HV.out.far hb2)
    clear hb2
    go_wp2_with fail
    refine (toWellS_any v l w2 hsz HV2.out).mono ?_
    rintro e w3 ⟨B3, rfl, hB3, hW3, hb3⟩
    have HB3 := Lib.hid (below_next HB2.out hb3)
    have HG3 := Lib.hid (HG2.out.later hb3)
    have HV3 := Lib.hid (HV2.out.far hb3)
    clear hb3
    go_wp2_with fail
    refine (specStrongestWell_any T S _ l x y t _ hsz (hW3.wat hrng)).mono ?_
    rw [HRR.out]
    rintro e w4 ⟨ra, rfl, hra, hb4⟩
    have HB4 := Lib.hid (below_next HB3.out hb4)
    have HG4 := Lib.hid (HG3.out.later hb4)
    have HV4 := Lib.hid (HV3.out.far hb4)
    clear hb4 hW3
    go_wp2_with fail
    refine (toWellS_any v l w4 hsz HV4.out).mono ?_
    rintro e w5 ⟨B5, rfl, hB5, hW5, hb5⟩
    have HB5 := Lib.hid (below_next HB4.out hb5)
    have HG5 := HG4.out.later hb5
    have HV5 := Lib.hid (HV4.out.far hb5)
    clear hb5
    go_wp2_with ((with_reducible refine wpList_get HG5 Try.underlying24 rfl (by kernel_rfl) ?_ ?_); rfl)
    refine (toAquifer_any T S w5).mono ?_
    rintro e w6 ⟨rfl, hb6⟩
    have HB6 := Lib.hid (below_next HB5.out hb6)
    have HV6 := Lib.hid (HV5.out.far hb6)
    have HW6 := Lib.hid (hW5.far hb6)
    clear hb6 hW5 HG5
    go_wp2_with fail
    refine (StrongestWell_any T S _ l x y t _ hsz (HW6.out.wat hrng)).mono ?_
    rw [HRR.out]
    rintro e w7 ⟨rb, rfl, hrb, hb7⟩
    have HB7 := Lib.hid (below_next HB6.out hb7)
    have HV7 := Lib.hid (HV6.out.far hb7)
    have HW7 := Lib.hid (HW6.out.far hb7)
    clear hb7
    have HR := Lib.hid (hrb.out.trans hra.out.symm)
    clear hra hrb
    go_wp2_with ((with_reducible refine wpList_wideG ?_ ?_ ?_ ?_ ?_); (exact rfl); (exact rfl); (exact Try.underlying40); (exact rfl); intro d n hd)
    rename_i d1 n1 hd1 _ _
    refine (sameFloat_any _ _ _ (by rw [hd1.out, hd.out]; exact congrArg wid HR.out)).mono ?_
    rintro e w8 ⟨rfl, hb8⟩
    have HB8 := Lib.hid (below_next (below_drawn HB7.out _) hb8)
    have HV8 := Lib.hid (HV7.out.far (below_next (below_drawn (Below.refl _ _) _) hb8))
    have HW8 := Lib.hid (HW7.out.far (below_next (below_drawn (Below.refl _ _) _) hb8))
    clear hb8
    go_wp2_with fail
    refine (toWellS_any v l w8 hsz HV8.out).mono ?_
    rintro e w9 ⟨B9, rfl, hB9, hW9, hb9⟩
    have HB9 := Lib.hid (below_next HB8.out hb9)
    have HW8b := HW8.out.far hb9
    clear hb9
    go_wp2_with fail
    refine (eqWellS_any _ _ l w9 hsz (HW8b.wat hrng) (hW9.wat hrng)).mono ?_
    rintro e w10 ⟨rfl, hb10⟩
    have HB10 := Lib.hid (below_next HB9.out hb10)
    clear hb10 hW9 HW8b
    go_wp2_with fail
    go_ret
    exact ⟨rfl, HB10.out⟩
  · have n0 : ((-1 : Int) < 0) := by decide
    go_enter Try.func11, Try.ntmps11
    go_wp2_with (with_reducible refine wpList_box rfl ?_)
    intro bA wA hA1 hA2 hA3 hA4
    have HB := Lib.hid hA4
    have HV := Lib.hid (hv.far hA4)
    clear hA3 hA4
    go_wp2_with fail
    refine (szWellS_any v l _ hlen HV.out).mono ?_
    rw [if_neg hsz]
    rintro e w' ⟨rfl, rfl⟩
    go_wp2_with fail
    go_ret
    exact ⟨rfl, HB.out⟩
end Go.Proofs.Ytbhnnglpakdigaa
