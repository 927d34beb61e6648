/- The law on an aquifer that is fitted: its walk. -/
import Derived.Test.YtonmdkhfongmhaaTfrom
import Derived.Test.YtonmdkhfongmhaaChain
import Derived.Test.YtonmdkhfongmhaaTM1
namespace Go.Proofs.Ytonmdkhfongmhaa
open Go.RowKit

set_option maxRecDepth 100000 in
set_option maxHeartbeats 3200000 in
theorem law_FitFrom (a : Aq) (s : Si) (v : Value) (l : List Rd) (R : Int) (w : World) (ha : a.Rng) (hs : s.Rng) (hlen : l.length < 9223372036854775808) (hv : RLAt w v l) :
    Calls Try.prog 7 #[.agg #[.float .f32 a.T, .float .f32 a.S], .agg s.cells, v, .int .i64 R] w (RetB true w) := by
  have hrng := hv.rng
  by_cases hsz : l.length ≤ 1048576
  · obtain ⟨rr, hrr⟩ : ∃ rr, frmR a s l R = rr := ⟨_, rfl⟩
    have HRR := Lib.hid hrr
    clear hrr
    obtain ⟨ra, r1, r2, r3⟩ := rr
    have n0 : ¬ (1048576 : Int) - (l.length : Int) < 0 := by omega
    go_enter Try.func7, Try.ntmps7
    go_wp2_with (with_reducible refine wpList_box rfl ?_)
    intro bA wA hA1 hA2 hA3 hA4
    go_wp2_with (with_reducible refine wpList_box rfl ?_)
    intro bS wS hS1 hS2 hS3 hS4
    have HA := hA3.later hS4
    have HSi := hS3
    have HB := Lib.hid (below_next hA4 hS4)
    have HV := Lib.hid ((hv.far hA4).far hS4)
    clear hA3 hA4 hS3 hS4 hv
    go_wp2_with fail
    refine (szReadingS_any v l _ hlen HV.out).mono ?_
    rw [if_pos hsz]
    rintro e w' ⟨rfl, rfl⟩
    go_wp2_with fail
    refine wp_chain [] (fun _ => #[.float .f32 0, .float .f32 0]) (by kernel_rfl) (by kernel_rfl) ?_
    repeat (refine n_step (fun K hK => ?_); go_simp; (try go_bits); refine hK _ _ ?_; clear hK K)
    (with_reducible refine n_get HA (by simp) Try.underlying34 rfl (by kernel_rfl) ?_ ?_); rfl
    repeat (refine n_step (fun K hK => ?_); go_simp; (try go_bits); refine hK _ _ ?_; clear hK K)
    refine n_step (fun K hK => ?_); go_simp; refine ⟨_, _, ⟨rfl, rfl⟩, rfl, fun x1 hx1 => ?_⟩
    refine (toAquifer_any a.T a.S x1).mono ?_
    rintro e x2 ⟨rfl, hx2⟩
    refine ⟨_, rfl, hx2, hK _ _ ?_⟩
    clear hK K
    have HQx2 := Lib.hid (below_thru hx1 hx2)
    clear hx1 hx2
    repeat (refine n_step (fun K hK => ?_); go_simp; (try go_bits); refine hK _ _ ?_; clear hK K)
    (with_reducible refine n_get HSi (by simp) Try.underlying39 rfl (by kernel_rfl) ?_ ?_); rfl
    repeat (refine n_step (fun K hK => ?_); go_simp; (try go_bits); refine hK _ _ ?_; clear hK K)
    refine n_step (fun K hK => ?_); go_simp; refine ⟨_, _, ⟨rfl, rfl⟩, rfl, fun x3 hx3 => ?_⟩
    refine (toSite_any s.x s.y s.r s.px s.py x3).mono ?_
    rintro e x4 ⟨rfl, hx4⟩
    refine ⟨_, rfl, hx4, hK _ _ ?_⟩
    clear hK K
    have HQx4 := Lib.hid (below_thru (below_thru HQx2.out hx3) hx4)
    clear hx3 hx4
    repeat (refine n_step (fun K hK => ?_); go_simp; (try go_bits); refine hK _ _ ?_; clear hK K)
    refine n_step (fun K hK => ?_); go_simp; refine ⟨_, _, ⟨rfl, rfl⟩, rfl, fun x5 hx5 => ?_⟩
    refine (toReadingS_any v l x5 hsz (HV.out.far (below_thru HQx4.out hx5))).mono ?_
    rintro e x6 ⟨B3, rfl, hB3, hW3, hx6⟩
    refine ⟨_, rfl, hx6, hK _ _ ?_⟩
    clear hK K
    have HQx6 := Lib.hid (below_thru (below_thru HQx4.out hx5) hx6)
    clear hx5 hx6
    repeat (refine n_step (fun K hK => ?_); go_simp; (try go_bits); refine hK _ _ ?_; clear hK K)
    refine n_step (fun K hK => ?_); go_simp; refine ⟨_, _, ⟨rfl, rfl⟩, rfl, fun x7 hx7 => ?_⟩
    refine (specFitFrom_any a s hs ha _ l R x7 hsz ((hW3.far hx7).at' hrng)).mono ?_
    rw [HRR.out]
    rintro e x8 ⟨q1, rfl, hq1, hx8⟩
    refine ⟨_, rfl, hx8, hK _ _ ?_⟩
    clear hK K
    have HQx8 := Lib.hid (below_thru (below_thru HQx6.out hx7) hx8)
    clear hx7 hx8
    repeat (refine n_step (fun K hK => ?_); go_simp; (try go_bits); refine hK _ _ ?_; clear hK K)
    refine n_alloc newA ?_
    intro xB hxB
    refine n_put (cells := #[.float .f32 ra.T, .float .f32 ra.S]) (old := #[.float .f32 0, .float .f32 0]) (fun w2 _ hΦ => hΦ.2.2) (.inl hxB) (Cls.of_below HQx8.out) sizeAq rfl (by simp [Value.oneCell']) rfl rfl ?_
    intro xP xPx hx1 hx2 xb xk xc
    have HQxP := Lib.hid (below_thru HQx8.out hx1)
    clear hx1 hx2 xc
    repeat (refine n_step (fun K hK => ?_); go_simp; (try go_bits); refine hK _ _ ?_; clear hK K)
    refine n_nil ?_
    rintro xE hxE _
    have bxE := xb.later hxE
    have kxE := grown_trans xk (grown_below hxE)
    clear xb xk hxE HQx8
    have hAl := HA.lt
    have hSl := HSi.lt
    have HA1 := (HA.later HQxP.out).grown kxE (by omega)
    have HSi1 := (HSi.later HQxP.out).grown kxE (by omega)
    have hbx1 : Below wS.heap.size wS xE := below_grown HQxP.out kxE HQxP.out.size hxB
    have HV1 := Lib.hid (HV.out.far hbx1)
    have HB1 := Lib.hid (below_next HB.out hbx1)
    have hxl := bxE.lt
    clear HA HSi HV HQxP kxE hW3 hbx1
    go_wp2_with fail
    refine (toReadingS_any v l xE hsz HV1.out).mono ?_
    rintro e w2 ⟨B5, rfl, hB5, hW5, hb5⟩
    have HA2 := HA1.later hb5
    have HSi2 := HSi1.later hb5
    have hbx2 := bxE.later hb5
    have HV2 := Lib.hid (HV1.out.far hb5)
    have HB2 := Lib.hid (below_next HB1.out hb5)
    have hs2 := hb5.size
    clear HA1 HSi1 HV1 hb5 bxE
    go_wp2_with fail
    refine wp_chain [] (fun _ => #[.float .f32 0, .float .f32 0]) (by kernel_rfl) (by kernel_rfl) ?_
    repeat (refine n_step (fun K hK => ?_); go_simp; (try go_bits); refine hK _ _ ?_; clear hK K)
    (with_reducible refine n_get HA2 (by simp) Try.underlying34 rfl (by kernel_rfl) ?_ ?_); rfl
    repeat (refine n_step (fun K hK => ?_); go_simp; (try go_bits); refine hK _ _ ?_; clear hK K)
    refine n_step (fun K hK => ?_); go_simp; refine ⟨_, _, ⟨rfl, rfl⟩, rfl, fun y1 hy1 => ?_⟩
    refine (toAquifer_any a.T a.S y1).mono ?_
    rintro e y2 ⟨rfl, hy2⟩
    refine ⟨_, rfl, hy2, hK _ _ ?_⟩
    clear hK K
    have HQy2 := Lib.hid (below_thru hy1 hy2)
    clear hy1 hy2
    repeat (refine n_step (fun K hK => ?_); go_simp; (try go_bits); refine hK _ _ ?_; clear hK K)
    (with_reducible refine n_get HSi2 (by simp) Try.underlying39 rfl (by kernel_rfl) ?_ ?_); rfl
    repeat (refine n_step (fun K hK => ?_); go_simp; (try go_bits); refine hK _ _ ?_; clear hK K)
    refine n_step (fun K hK => ?_); go_simp; refine ⟨_, _, ⟨rfl, rfl⟩, rfl, fun y3 hy3 => ?_⟩
    refine (toSite_any s.x s.y s.r s.px s.py y3).mono ?_
    rintro e y4 ⟨rfl, hy4⟩
    refine ⟨_, rfl, hy4, hK _ _ ?_⟩
    clear hK K
    have HQy4 := Lib.hid (below_thru (below_thru HQy2.out hy3) hy4)
    clear hy3 hy4
    repeat (refine n_step (fun K hK => ?_); go_simp; (try go_bits); refine hK _ _ ?_; clear hK K)
    refine n_step (fun K hK => ?_); go_simp; refine ⟨_, _, ⟨rfl, rfl⟩, rfl, fun y5 hy5 => ?_⟩
    refine (FitFrom_any a s hs ha _ l R y5 hsz ((hW5.far (below_thru HQy4.out hy5)).at' hrng)).mono ?_
    rw [HRR.out]
    rintro e y6 ⟨q2, rfl, hq2, hy6⟩
    refine ⟨_, rfl, hy6, hK _ _ ?_⟩
    clear hK K
    have HQy6 := Lib.hid (below_thru (below_thru HQy4.out hy5) hy6)
    clear hy5 hy6
    repeat (refine n_step (fun K hK => ?_); go_simp; (try go_bits); refine hK _ _ ?_; clear hK K)
    refine n_alloc newA ?_
    intro yB hyB
    refine n_put (cells := #[.float .f32 ra.T, .float .f32 ra.S]) (old := #[.float .f32 0, .float .f32 0]) (fun w2 _ hΦ => hΦ.2.2) (.inl hyB) (Cls.of_below HQy6.out) sizeAq rfl (by simp [Value.oneCell']) rfl rfl ?_
    intro yP yPx hy1 hy2 yb yk yc
    have HQyP := Lib.hid (below_thru HQy6.out hy1)
    clear hy1 hy2 yc
    repeat (refine n_step (fun K hK => ?_); go_simp; (try go_bits); refine hK _ _ ?_; clear hK K)
    refine n_nil ?_
    rintro yE hyE _
    have byE := yb.later hyE
    have kyE := grown_trans yk (grown_below hyE)
    clear yb yk hyE HQy6
    have hby : Below w2.heap.size w2 yE := below_grown HQyP.out kyE HQyP.out.size hyB
    have HV7 := Lib.hid (HV2.out.far hby)
    have HW7 := Lib.hid (hW5.far hby)
    have HX7 := Lib.hid (hbx2.later hby)
    have HY7 := Lib.hid byE
    have HB7 := Lib.hid (below_next HB2.out hby)
    have HR := Lib.hid (hq2.out.trans hq1.out.symm)
    clear HA2 HSi2 HV2 HQyP kyE hW5 hbx2 byE hby hq1 hq2
    go_wp2_with (first | ((with_reducible refine wpList_get HY7.out Try.underlying42 rfl (by kernel_rfl) ?_ ?_); rfl) | ((with_reducible refine wpList_get HX7.out Try.underlying42 rfl (by kernel_rfl) ?_ ?_); rfl))
    refine (eqAquifer_any ra.T ra.S ra.T ra.S _ rfl rfl).mono ?_
    rintro e w13 ⟨rfl, hb13⟩
    have HV13 := Lib.hid (HV7.out.far hb13)
    have HW13 := Lib.hid (HW7.out.far hb13)
    have HB13 := Lib.hid (below_next HB7.out hb13)
    clear hb13
    go_wp2_with ((with_reducible refine wpList_wideG ?_ ?_ ?_ ?_ ?_); (exact rfl); (exact rfl); (exact Try.underlying30); (exact rfl); intro d n hd)
    rename_i d1 n1 hd1 _ _
    refine (sameFloat_any _ _ _ (by rw [hd1.out, hd.out]; exact congrArg wid HR.out)).mono ?_
    rintro e w8 ⟨rfl, hb8⟩
    have HB8 := Lib.hid (below_next (below_drawn HB13.out _) hb8)
    have HV8 := Lib.hid (HV13.out.far (below_next (below_drawn (Below.refl _ _) _) hb8))
    have HW8 := Lib.hid (HW13.out.far (below_next (below_drawn (Below.refl _ _) _) hb8))
    clear hb8
    go_wp2_with fail
    refine (toReadingS_any v l w8 hsz HV8.out).mono ?_
    rintro e w9 ⟨B9, rfl, hB9, hW9, hb9⟩
    have HB9 := Lib.hid (below_next HB8.out hb9)
    have HW8b := HW8.out.far hb9
    clear hb9
    go_wp2_with fail
    refine (eqReadingS_any _ _ l w9 hsz (HW8b.at' hrng) (hW9.at' hrng)).mono ?_
    rintro e w10 ⟨rfl, hb10⟩
    have HB10 := Lib.hid (below_next HB9.out hb10)
    clear hb10 hW9 HW8b
    go_wp2_with fail
    go_ret
    exact ⟨rfl, HB10.out⟩
  · have n0 : ((-1 : Int) < 0) := by decide
    go_enter Try.func7, Try.ntmps7
    go_wp2_with (with_reducible refine wpList_box rfl ?_)
    intro bA wA hA1 hA2 hA3 hA4
    go_wp2_with (with_reducible refine wpList_box rfl ?_)
    intro bS wS hS1 hS2 hS3 hS4
    have HB := Lib.hid (below_next hA4 hS4)
    have HV := Lib.hid ((hv.far hA4).far hS4)
    clear hA3 hA4 hS3 hS4
    go_wp2_with fail
    refine (szReadingS_any v l _ hlen HV.out).mono ?_
    rw [if_neg hsz]
    rintro e w' ⟨rfl, rfl⟩
    go_wp2_with fail
    go_ret
    exact ⟨rfl, HB.out⟩
end Go.Proofs.Ytonmdkhfongmhaa
