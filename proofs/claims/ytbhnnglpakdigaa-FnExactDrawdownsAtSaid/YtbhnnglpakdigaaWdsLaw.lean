/- The law on drawdowns: its walk. -/
import Derived.Test.YtbhnnglpakdigaaWmark
namespace Go.Proofs.Ytbhnnglpakdigaa
open Go.RowKit

set_option maxRecDepth 100000 in
set_option maxHeartbeats 6400000 in
theorem law_DrawdownsAt (T S : Nat) (v : Value) (l : List We) (x y t : Int) (w : World) (hlen : l.length < 9223372036854775808) (hv : LAt w v l) :
    Calls Try.prog 10 #[.agg #[.float .f32 T, .float .f32 S], v, .int .i64 x, .int .i64 y, .int .i64 t] w (RetB true w) := by
  have hrng := hv.rng
  by_cases hsz : l.length ≤ 1048576
  · obtain ⟨r1, h1⟩ : ∃ r, dsR T S l x y t = r := ⟨_, rfl⟩
    obtain ⟨r2, h2⟩ : ∃ r, askW (okA (fb T) (fb S)) l x y [t] = r := ⟨_, rfl⟩
    have hr64 : r1.length ≤ 64 := by
      rw [← h1]
      unfold dsR
      split
      · rename_i h
        have := (ask_down h).2.2.1
        rw [List.length_map]; omega
      · simp
    have H1 := Lib.hid h1
    have H2 := Lib.hid h2
    clear h1 h2
    have n0 : ¬ (1048576 : Int) - (l.length : Int) < 0 := by omega
    go_enter Try.func10, Try.ntmps10
    go_wp2_with (with_reducible refine wpList_box rfl ?_)
    intro bA wA hA1 hA2 hA3 hA4
    have HG := Lib.hid hA3
    have HB := Lib.hid hA4
    have HV := Lib.hid (hv.far hA4)
    clear hA3 hA4
    go_wp2_with fail
    refine (szWellS_any v l _ hlen HV.out).mono ?_
    rw [if_pos hsz]
    rintro e w' ⟨rfl, rfl⟩
    go_wp2_with ((with_reducible refine wpList_get HG.out Try.underlying24 rfl (by kernel_rfl) ?_ ?_); rfl)
    refine (toAquifer_any T S wA).mono ?_
    rintro e w2 ⟨rfl, hb2⟩
    have HX2 := Lib.hid hb2
    clear hb2
    go_wp2_with fail
    refine (toWellS_any v l w2 hsz (HV.out.far HX2.out)).mono ?_
    rintro e w3 ⟨B3, rfl, hB3, hW3, hb3⟩
    have HX3 := Lib.hid (below_next HX2.out hb3)
    clear hb3
    go_wp2_with fail
    refine (specDrawdownsAt_any T S _ l x y t _ hsz (hW3.wat hrng)).mono ?_
    rw [H1.out, H2.out]
    rintro e w4 ⟨v0, bl0, rfl, hown0, hbl0, hb4⟩
    have HX4 := Lib.hid (below_next HX3.out hb4)
    have HL0 := Lib.hid (flist_of hown0)
    have HBL0 := Lib.hid hbl0
    have hl0 : bl0.length ≤ 64 := by have := congrArg List.length hbl0; rw [List.length_map] at this; omega
    clear hb4 hW3 hown0 hbl0
    go_wp2_with fail
    refine (toWellS_any v l w4 hsz (HV.out.far HX4.out)).mono ?_
    rintro e w5 ⟨B5, rfl, hB5, hW5, hb5⟩
    have HX5 := Lib.hid (below_next HX4.out hb5)
    have HF5 := Lib.hid hb5
    have hG5 := HG.out.later HX5.out
    have hB5lt : B5 < w5.heap.size := by obtain ⟨cur, hc, _⟩ := hW5; exact hc.lt
    clear hb5
    go_wp2_with ((with_reducible refine wpList_get hG5 Try.underlying24 rfl (by kernel_rfl) ?_ ?_); rfl)
    refine (toAquifer_any T S w5).mono ?_
    rintro e w6 ⟨rfl, hb6⟩
    have HX6 := Lib.hid (below_next HX5.out hb6)
    have HF6 := Lib.hid (below_next HF5.out hb6)
    have HW6 := Lib.hid (hW5.far hb6)
    have hs6 := hb6.size
    clear hb6 hW5 hG5
    go_wp2_with fail
    refine (DrawdownsAt_any T S _ l x y t _ hsz (HW6.out.wat hrng)).mono ?_
    rw [H1.out, H2.out]
    rintro e w7 ⟨v1, bl1, rfl, hown1, hbl1, hb7⟩
    have HX7 := Lib.hid (below_next HX6.out hb7)
    have HF7 := Lib.hid (below_next HF6.out hb7)
    have HW7 := Lib.hid (HW6.out.far hb7)
    have HO7 := Lib.hid hown1
    have HBL1 := Lib.hid (hbl1.trans HBL0.out.symm)
    have hl1 : bl1.length ≤ 64 := by have := congrArg List.length hbl1; rw [List.length_map] at this; omega
    have hs7 := hb7.size
    clear hb7 hown1 hbl1
    go_wp2_with fail
    refine (eqFloat32S_any v1 v0 bl1 bl0 w7 hl1 HBL1.out (flist_of HO7.out) (HL0.out.far HF7.out)).mono ?_
    rintro e w8 ⟨rfl, hb8⟩
    have HX8 := Lib.hid (below_next HX7.out hb8)
    have HF8 := Lib.hid (below_next HF7.out hb8)
    have HW8 := Lib.hid (HW7.out.far hb8)
    have HO8 := Lib.hid (owns_below HO7.out hb8)
    have hs8 := hb8.size
    clear hb8
    go_wp2_with fail
    refine (toWellS_any v l w8 hsz (HV.out.far HX8.out)).mono ?_
    rintro e w9 ⟨B9, rfl, hB9, hW9, hb9⟩
    have HX9 := Lib.hid (below_next HX8.out hb9)
    have HF9 := Lib.hid (below_next HF8.out hb9)
    have HW9 := Lib.hid (HW8.out.far hb9)
    have HO9 := Lib.hid (owns_below HO8.out hb9)
    have hs9 := hb9.size
    clear hb9
    go_wp2_with fail
    refine (eqWellS_any _ _ l w9 hsz (HW9.out.wat hrng) (hW9.wat hrng)).mono ?_
    rintro e w10 ⟨rfl, hb10⟩
    have HX10 := Lib.hid (below_next HX9.out hb10)
    have HF10 := Lib.hid (below_next HF9.out hb10)
    have HW10 := Lib.hid (HW9.out.far hb10)
    have HO10 := Lib.hid (owns_below HO9.out hb10)
    have hs10 := hb10.size
    clear hb10 hW9
    obtain ⟨cur10, hc10, hcs10, _⟩ := HW10.out
    go_wp2_with fail
    refine (markWellS_any B5 l.length cur10 w10 hsz hcs10 hc10).mono ?_
    rintro e w11 ⟨rfl, hg11⟩
    have HX11 := Lib.hid (below_grown HX10.out hg11 HX10.out.size (by have := HX4.out.size; omega))
    have HF11 := Lib.hid (below_grown HF10.out hg11 HF10.out.size hB5)
    have HO11 := Lib.hid (owns_far HO10.out hg11 (fun q hq => by have := (HO10.out.lt q hq).1; omega))
    have k0 : ¬ (1 + 3 * (l.length : Int) < 0) := by omega
    clear hg11 hc10
    go_wp2_with fail
    refine (eqFloat32S_any v1 v0 bl1 bl0 w11 hl1 HBL1.out (flist_of HO11.out) (HL0.out.far HF11.out)).mono ?_
    rintro e w12 ⟨rfl, hb12⟩
    have HX12 := Lib.hid (below_next HX11.out hb12)
    have HF12 := Lib.hid (below_next HF11.out hb12)
    have HO12 := Lib.hid (owns_below HO11.out hb12)
    clear hb12
    go_wp2_with fail
    refine (markFloat_owns HO12.out hl1).mono ?_
    rintro e w13 ⟨rfl, hc13, hb13⟩
    have HX13 := Lib.hid (HX12.out.trans (hb13.mono (by have := HX6.out.size; omega)))
    have HF13 := Lib.hid (HF12.out.trans (hb13.mono (by have := HF6.out.size; omega)))
    have HC13 := Lib.hid hc13
    clear hb13 hc13
    go_wp2_with fail
    refine (heldFloat_any v1 _ w13 hl1 HC13.out).mono ?_
    rintro e w14 ⟨rfl, hb14⟩
    have HX14 := Lib.hid (below_next HX13.out hb14)
    have HF14 := Lib.hid (below_next HF13.out hb14)
    have HC14 := Lib.hid (HC13.out.far hb14)
    have hG14 := HG.out.later HX14.out
    have n1 : ¬ (1 + (bl1.length : Int) < 0) := by omega
    clear hb14
    go_wp2_with ((with_reducible refine wpList_get hG14 Try.underlying24 rfl (by kernel_rfl) ?_ ?_); rfl)
    refine (toAquifer_any T S w14).mono ?_
    rintro e w15 ⟨rfl, hb15⟩
    have HX15 := Lib.hid (below_next HX14.out hb15)
    have HF15 := Lib.hid (below_next HF14.out hb15)
    have HC15 := Lib.hid (HC14.out.far hb15)
    clear hb15 hG14
    go_wp2_with fail
    refine (toWellS_any v l w15 hsz (HV.out.far HX15.out)).mono ?_
    rintro e w16 ⟨B16, rfl, hB16, hW16, hb16⟩
    have HX16 := Lib.hid (below_next HX15.out hb16)
    have HF16 := Lib.hid (below_next HF15.out hb16)
    have HC16 := Lib.hid (HC15.out.far hb16)
    clear hb16
    go_wp2_with fail
    refine (DrawdownsAt_any T S _ l x y t _ hsz (hW16.wat hrng)).mono ?_
    rw [H1.out, H2.out]
    rintro e w17 ⟨v2, bl2, rfl, hown2, hbl2, hb17⟩
    have HX17 := Lib.hid (below_next HX16.out hb17)
    have HF17 := Lib.hid (below_next HF16.out hb17)
    have HC17 := Lib.hid (HC16.out.far hb17)
    have HL2 := Lib.hid (flist_of hown2)
    have HBL2 := Lib.hid (hbl2.trans HBL0.out.symm)
    have hl2 : bl2.length ≤ 64 := by have := congrArg List.length hbl2; rw [List.length_map] at this; omega
    clear hb17 hown2 hbl2 hW16
    go_wp2_with fail
    refine (eqFloat32S_any v2 v0 bl2 bl0 w17 hl2 HBL2.out HL2.out (HL0.out.far HF17.out)).mono ?_
    rintro e w18 ⟨rfl, hb18⟩
    have HX18 := Lib.hid (below_next HX17.out hb18)
    have HC18 := Lib.hid (HC17.out.far hb18)
    clear hb18
    go_wp2_with fail
    refine (heldFloat_any v1 _ w18 hl1 HC18.out).mono ?_
    rintro e w19 ⟨rfl, hb19⟩
    have HX19 := Lib.hid (below_next HX18.out hb19)
    clear hb19
    go_wp2_with fail
    go_ret
    exact ⟨rfl, below_next HB.out HX19.out⟩
  · have n0 : ((-1 : Int) < 0) := by decide
    go_enter Try.func10, Try.ntmps10
    go_wp2_with (with_reducible refine wpList_box rfl ?_)
    intro bA wA hA1 hA2 hA3 hA4
    have HB := Lib.hid hA4
    have HV := Lib.hid (hv.far hA4)
    clear hA3 hA4
    go_wp2_with fail
    refine (szWellS_any v l _ hlen HV.out).mono ?_
    rw [if_neg hsz]
    rintro e w' ⟨rfl, rfl⟩
    go_wp2_with fail
    go_ret
    exact ⟨rfl, HB.out⟩
end Go.Proofs.Ytbhnnglpakdigaa
