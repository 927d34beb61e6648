/- The law on the span of transmissivities: its walk. -/
import Derived.Test.YtonmdkhfongmhaaTspan
import Derived.Test.YtonmdkhfongmhaaTmark
import Derived.Test.YtonmdkhfongmhaaChain
import Derived.Test.YtonmdkhfongmhaaTM1
namespace Go.Proofs.Ytonmdkhfongmhaa
open Go.RowKit

set_option maxRecDepth 100000 in
set_option maxHeartbeats 6400000 in
theorem law_TransmitSpan (gs : List Aq) (s : Si) (vg v : Value) (l : List Rd) (bd : Nat) (w : World) (hs : s.Rng) (hgl : gs.length < 9223372036854775808) (hlen : l.length < 9223372036854775808) (hg : ALAt w vg gs) (hv : RLAt w v l) :
    Calls Try.prog 11 #[vg, .agg s.cells, v, .float .f32 bd] w (RetB true w) := by
  have hrng := hv.rng
  have hgrng := hg.rng
  by_cases hgz : gs.length ≤ 1048576
  · by_cases hsz : (l.length : Int) ≤ 1048576 - (gs.length : Int)
    · have hsz2 : l.length ≤ 1048576 := by omega
      obtain ⟨rr, hrr⟩ : ∃ rr, spaR gs s l bd = rr := ⟨_, rfl⟩
      have HRR := Lib.hid hrr
      clear hrr
      obtain ⟨r0, r1, r2⟩ := rr
      have n1 : ¬ (1048576 : Int) - (gs.length : Int) < 0 := by omega
      have n0 : ¬ (1048576 : Int) - (gs.length : Int) - (l.length : Int) < 0 := by omega
      go_enter Try.func11, Try.ntmps11
      go_wp2_with (with_reducible refine wpList_box rfl ?_)
      intro bS wS hS1 hS2 hS3 hS4
      have HSi := hS3
      have HB := Lib.hid hS4
      have HV := Lib.hid (hv.far hS4)
      have HGV := Lib.hid (hg.far hS4)
      clear hS3 hS4 hv hg
      go_wp2_with fail
      refine (szAquiferS_any vg gs _ hgl HGV.out).mono ?_
      rw [if_pos hgz]
      rintro e w' ⟨rfl, rfl⟩
      go_wp2_with fail
      refine (szReadingS_gen v l _ _ (by omega) hlen HV.out).mono ?_
      rw [if_pos hsz]
      rintro e w' ⟨rfl, rfl⟩
      go_wp2_with fail
      refine wp_chain [] (fun _ => #[]) (by kernel_rfl) (by kernel_rfl) ?_
      repeat (refine n_step (fun K hK => ?_); go_simp; (try go_bits); refine hK _ _ ?_; clear hK K)
      refine n_step (fun K hK => ?_); go_simp; refine ⟨_, _, ⟨rfl, rfl⟩, rfl, fun x1 hx1 => ?_⟩
      refine (toAquiferS_any vg gs x1 hgz (HGV.out.far hx1)).mono ?_
      rintro e x2 ⟨Bg, rfl, hBg, hWg, hx2⟩
      refine ⟨_, rfl, hx2, hK _ _ ?_⟩
      clear hK K
      have HQx2 := Lib.hid (below_thru hx1 hx2)
      clear hx1 hx2
      repeat (refine n_step (fun K hK => ?_); go_simp; (try go_bits); refine hK _ _ ?_; clear hK K)
      (with_reducible refine n_get HSi (by simp) Try.underlying39 rfl (by kernel_rfl) ?_ ?_); rfl
      repeat (refine n_step (fun K hK => ?_); go_simp; (try go_bits); refine hK _ _ ?_; clear hK K)
      refine n_step (fun K hK => ?_); go_simp; refine ⟨_, _, ⟨rfl, rfl⟩, rfl, fun x3 hx3 => ?_⟩
      refine (toSite_any s.x s.y s.r s.px s.py x3).mono ?_
      rintro e x4 ⟨rfl, hx4⟩
      refine ⟨_, rfl, hx4, hK _ _ ?_⟩
      clear hK K
      have hWg2 := (hWg.far hx3).far hx4
      have HQx4 := Lib.hid (below_thru (below_thru HQx2.out hx3) hx4)
      clear hx3 hx4
      repeat (refine n_step (fun K hK => ?_); go_simp; (try go_bits); refine hK _ _ ?_; clear hK K)
      refine n_step (fun K hK => ?_); go_simp; refine ⟨_, _, ⟨rfl, rfl⟩, rfl, fun x5 hx5 => ?_⟩
      refine (toReadingS_any v l x5 hsz2 (HV.out.far (below_thru HQx4.out hx5))).mono ?_
      rintro e x6 ⟨B3, rfl, hB3, hW3, hx6⟩
      refine ⟨_, rfl, hx6, hK _ _ ?_⟩
      clear hK K
      have hWg3 := (hWg2.far hx5).far hx6
      have HQx6 := Lib.hid (below_thru (below_thru HQx4.out hx5) hx6)
      clear hx5 hx6
      repeat (refine n_step (fun K hK => ?_); go_simp; (try go_bits); refine hK _ _ ?_; clear hK K)
      refine n_step (fun K hK => ?_); go_simp; refine ⟨_, _, ⟨rfl, rfl⟩, rfl, fun x7 hx7 => ?_⟩
      refine (specTransmitSpan_any gs s hs _ _ l bd x7 hsz2 hgz ((hWg3.far hx7).at' hgrng) ((hW3.far hx7).at' hrng)).mono ?_
      rw [HRR.out]
      rintro e x8 ⟨ra, qa, rfl, hra, hqa, hx8⟩
      refine ⟨_, rfl, hx8, hK _ _ ?_⟩
      clear hK K
      have HQx8 := Lib.hid (below_thru (below_thru HQx6.out hx7) hx8)
      clear hx7 hx8
      repeat (refine n_step (fun K hK => ?_); go_simp; (try go_bits); refine hK _ _ ?_; clear hK K)
      refine n_nil ?_
      rintro xE hxE _
      have HQxE := Lib.hid (below_thru HQx8.out hxE)
      have HSi1 := HSi.later HQxE.out
      have HV1 := Lib.hid (HV.out.far HQxE.out)
      have HGV1 := Lib.hid (HGV.out.far HQxE.out)
      have HB1 := Lib.hid (below_next HB.out HQxE.out)
      clear HSi HV HGV HQxE hxE hW3 hWg hWg2 hWg3
      go_wp2_with fail
      refine (toAquiferS_any vg gs xE hgz HGV1.out).mono ?_
      rintro e w2 ⟨BG, rfl, hBG, hWG, hb2⟩
      have HSi2 := HSi1.later hb2
      have HV2 := Lib.hid (HV1.out.far hb2)
      have HGV2 := Lib.hid (HGV1.out.far hb2)
      have HB2 := Lib.hid (below_next HB1.out hb2)
      have HX2 := Lib.hid hb2
      have hlG : BG < w2.heap.size := by obtain ⟨cur, hc, _⟩ := hWG; exact hc.lt
      clear hb2 HSi1
      go_wp2_with fail
      refine (toReadingS_any v l w2 hsz2 HV2.out).mono ?_
      rintro e w3 ⟨BR, rfl, hBR, hWR, hb3⟩
      have HSi3 := HSi2.later hb3
      have HV3 := Lib.hid (HV2.out.far hb3)
      have HGV3 := Lib.hid (HGV2.out.far hb3)
      have HB3 := Lib.hid (below_next HB2.out hb3)
      have HX3 := Lib.hid (below_next HX2.out hb3)
      have hWG3 := hWG.far hb3
      have hlR : BR < w3.heap.size := by obtain ⟨cur, hc, _⟩ := hWR; exact hc.lt
      clear hb3 HSi2
      go_wp2_with ((with_reducible refine wpList_get HSi3 Try.underlying39 rfl (by kernel_rfl) ?_ ?_); rfl)
      refine (toSite_any s.x s.y s.r s.px s.py w3).mono ?_
      rintro e w4 ⟨rfl, hb4⟩
      have HV4 := Lib.hid (HV3.out.far hb4)
      have HGV4 := Lib.hid (HGV3.out.far hb4)
      have HB4 := Lib.hid (below_next HB3.out hb4)
      have HX4 := Lib.hid (below_next HX3.out hb4)
      have hSi4 := Lib.hid (HSi3.later hb4)
      have hWG4 := hWG3.far hb4
      have hWR4 := hWR.far hb4
      have hs4 := hb4.size
      clear hb4 HSi3 hWG hWG3 hWR
      go_wp2_with fail
      refine (TransmitSpan_any gs s hs _ _ l bd w4 hsz2 hgz (hWG4.at' hgrng) (hWR4.at' hrng)).mono ?_
      rw [HRR.out]
      rintro e w7 ⟨rb, qb, rfl, hrb, hqb, hb7⟩
      have HV7 := Lib.hid (HV4.out.far hb7)
      have HGV7 := Lib.hid (HGV4.out.far hb7)
      have HB7 := Lib.hid (below_next HB4.out hb7)
      have HX7 := Lib.hid (below_next HX4.out hb7)
      have hSi7 := Lib.hid (hSi4.out.later hb7)
      have HWG7 := Lib.hid (hWG4.far hb7)
      have HWR7 := Lib.hid (hWR4.far hb7)
      have hs7 := hb7.size
      have HR := Lib.hid (hrb.out.trans hra.out.symm)
      have HR2 := Lib.hid (hqb.out.trans hqa.out.symm)
      clear hra hrb hqa hqb
      clear hb7 hWG4 hWR4
      go_wp2_with ((with_reducible refine wpList_wideG ?_ ?_ ?_ ?_ ?_); (exact rfl); (exact rfl); (exact Try.underlying30); (exact rfl); intro d n hd)
      rename_i d1 n1 hd1 _ _
      refine (sameFloat_any _ _ _ (by rw [hd1.out, hd.out]; exact congrArg wid HR.out)).mono ?_
      rintro e w13 ⟨rfl, hb13⟩
      have HB13 := Lib.hid (below_next (below_drawn HB7.out _) hb13)
      have HV13 := Lib.hid (HV7.out.far (below_next (below_drawn (Below.refl _ _) _) hb13))
      have HGV13 := Lib.hid (HGV7.out.far (below_next (below_drawn (Below.refl _ _) _) hb13))
      have HWG13 := Lib.hid (HWG7.out.far (below_next (below_drawn (Below.refl _ _) _) hb13))
      have HWR13 := Lib.hid (HWR7.out.far (below_next (below_drawn (Below.refl _ _) _) hb13))
      clear hb13 hd hd1
      go_wp2_with ((with_reducible refine wpList_wideG ?_ ?_ ?_ ?_ ?_); (exact rfl); (exact rfl); (exact Try.underlying30); (exact rfl); intro d n hd)
      rename_i d1 n1 hd1 _ _
      refine (sameFloat_any _ _ _ (by rw [hd1.out, hd.out]; exact congrArg wid HR2.out)).mono ?_
      rintro e w8 ⟨rfl, hb8⟩
      have HB8 := Lib.hid (below_next (below_drawn HB13.out _) hb8)
      have HV8 := Lib.hid (HV13.out.far (below_next (below_drawn (Below.refl _ _) _) hb8))
      have HGV8 := Lib.hid (HGV13.out.far (below_next (below_drawn (Below.refl _ _) _) hb8))
      have HWG8 := Lib.hid (HWG13.out.far (below_next (below_drawn (Below.refl _ _) _) hb8))
      have HWR8 := Lib.hid (HWR13.out.far (below_next (below_drawn (Below.refl _ _) _) hb8))
      clear hb8 hd
      go_wp2_with fail
      refine (toAquiferS_any vg gs w8 hgz HGV8.out).mono ?_
      rintro e w9 ⟨B9, rfl, hB9, hW9, hb9⟩
      have HB9 := Lib.hid (below_next HB8.out hb9)
      have HV9 := Lib.hid (HV8.out.far hb9)
      have hWG9 := HWG8.out.far hb9
      have HWR9 := Lib.hid (HWR8.out.far hb9)
      clear hb9
      go_wp2_with fail
      refine (eqAquiferS_any _ _ gs w9 hgz (hWG9.at' hgrng) (hW9.at' hgrng)).mono ?_
      rintro e w10 ⟨rfl, hb10⟩
      have HB10 := Lib.hid (below_next HB9.out hb10)
      have HV10 := Lib.hid (HV9.out.far hb10)
      have HWR10 := Lib.hid (HWR9.out.far hb10)
      clear hb10 hW9 hWG9
      go_wp2_with fail
      refine (toReadingS_any v l w10 hsz2 HV10.out).mono ?_
      rintro e w11 ⟨B11, rfl, hB11, hW11, hb11⟩
      have HB11 := Lib.hid (below_next HB10.out hb11)
      have hWR11 := HWR10.out.far hb11
      clear hb11
      go_wp2_with fail
      refine (eqReadingS_any _ _ l w11 hsz2 (hWR11.at' hrng) (hW11.at' hrng)).mono ?_
      rintro e w12 ⟨rfl, hb12⟩
      have HB12 := Lib.hid (below_next HB11.out hb12)
      clear hb12 hW11 hWR11
      go_wp2_with fail
      go_ret
      exact ⟨rfl, HB12.out⟩
    · have n0 : ((-1 : Int) < 0) := by decide
      have n1 : ¬ (1048576 : Int) - (gs.length : Int) < 0 := by omega
      go_enter Try.func11, Try.ntmps11
      go_wp2_with (with_reducible refine wpList_box rfl ?_)
      intro bS wS hS1 hS2 hS3 hS4
      have HB := Lib.hid hS4
      have HV := Lib.hid (hv.far hS4)
      have HGV := Lib.hid (hg.far hS4)
      clear hS3 hS4
      go_wp2_with fail
      refine (szAquiferS_any vg gs _ hgl HGV.out).mono ?_
      rw [if_pos hgz]
      rintro e w' ⟨rfl, rfl⟩
      go_wp2_with fail
      refine (szReadingS_gen v l _ _ (by omega) hlen HV.out).mono ?_
      rw [if_neg (by omega)]
      rintro e w' ⟨rfl, rfl⟩
      go_wp2_with fail
      go_ret
      exact ⟨rfl, HB.out⟩
  · have n0 : ((-1 : Int) < 0) := by decide
    go_enter Try.func11, Try.ntmps11
    go_wp2_with (with_reducible refine wpList_box rfl ?_)
    intro bS wS hS1 hS2 hS3 hS4
    have HB := Lib.hid hS4
    have HGV := Lib.hid (hg.far hS4)
    clear hS3 hS4
    go_wp2_with fail
    refine (szAquiferS_any vg gs _ hgl HGV.out).mono ?_
    rw [if_neg hgz]
    rintro e w' ⟨rfl, rfl⟩
    go_wp2_with fail
    go_ret
    exact ⟨rfl, HB.out⟩
end Go.Proofs.Ytonmdkhfongmhaa
