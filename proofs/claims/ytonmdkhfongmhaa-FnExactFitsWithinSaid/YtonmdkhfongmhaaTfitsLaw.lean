/- The law on guesses that fit: its walk. -/
import Derived.Test.YtonmdkhfongmhaaTfits
import Derived.Test.YtonmdkhfongmhaaTmark
import Derived.Test.YtonmdkhfongmhaaChain
import Derived.Test.YtonmdkhfongmhaaTM1
namespace Go.Proofs.Ytonmdkhfongmhaa
open Go.RowKit

set_option maxRecDepth 100000 in
set_option maxHeartbeats 6400000 in
theorem law_FitsWithin (gs : List Aq) (s : Si) (vg v : Value) (l : List Rd) (bd : Nat) (w : World) (hs : s.Rng) (hgl : gs.length < 9223372036854775808) (hlen : l.length < 9223372036854775808) (hg : ALAt w vg gs) (hv : RLAt w v l) :
    Calls Try.prog 10 #[vg, .agg s.cells, v, .float .f32 bd] w (RetB true w) := by
  have hrng := hv.rng
  have hgrng := hg.rng
  by_cases hgz : gs.length ≤ 1048576
  · by_cases hsz : (l.length : Int) ≤ 1048576 - (gs.length : Int)
    · have hsz2 : l.length ≤ 1048576 := by omega
      obtain ⟨r1, h1⟩ : ∃ r, fitR gs s l bd = r := ⟨_, rfl⟩
      obtain ⟨r2, h2⟩ : ∃ r, gesF gs s l = r := ⟨_, rfl⟩
      have hr20 : r1.length ≤ 20 := by rw [← h1]; exact fitR_len
      have natI_len : r1.length = (natI r1).length := by simp [natI]
      have hnl : (natI r1).length ≤ 1048576 := by omega
      have hnl2 : r1.length ≤ 1048576 := by omega
      have H1 := Lib.hid h1
      have H2 := Lib.hid h2
      clear h1 h2
      have n1 : ¬ (1048576 : Int) - (gs.length : Int) < 0 := by omega
      have n0 : ¬ (1048576 : Int) - (gs.length : Int) - (l.length : Int) < 0 := by omega
      go_enter Try.func10, Try.ntmps10
      go_wp2_with (with_reducible refine wpList_box rfl ?_)
      intro bS wS hS1 hS2 hS3 hS4
      have HSi := hS3
      have HB := Lib.hid hS4
      have HV := Lib.hid (hv.far hS4)
      have HGV := Lib.hid (hg.far hS4)
      clear hS3 hS4 hv hg
      go_wp2_with fail
      refine (szAquiferS_any vg gs _ hgl HGV.out).mono ?_
      rw [if_pos hgz]
      rintro e w' ⟨rfl, rfl⟩
      go_wp2_with fail
      refine (szReadingS_gen v l _ _ (by omega) hlen HV.out).mono ?_
      rw [if_pos hsz]
      rintro e w' ⟨rfl, rfl⟩
      go_wp2_with fail
      refine wp_chain [] (fun _ => #[]) (by kernel_rfl) (by kernel_rfl) ?_
      repeat (refine n_step (fun K hK => ?_); go_simp; (try go_bits); refine hK _ _ ?_; clear hK K)
      refine n_step (fun K hK => ?_); go_simp; refine ⟨_, _, ⟨rfl, rfl⟩, rfl, fun x1 hx1 => ?_⟩
      refine (toAquiferS_any vg gs x1 hgz (HGV.out.far hx1)).mono ?_
      rintro e x2 ⟨Bg, rfl, hBg, hWg, hx2⟩
      refine ⟨_, rfl, hx2, hK _ _ ?_⟩
      clear hK K
      have HQx2 := Lib.hid (below_thru hx1 hx2)
      clear hx1 hx2
      repeat (refine n_step (fun K hK => ?_); go_simp; (try go_bits); refine hK _ _ ?_; clear hK K)
      (with_reducible refine n_get HSi (by simp) Try.underlying39 rfl (by kernel_rfl) ?_ ?_); rfl
      repeat (refine n_step (fun K hK => ?_); go_simp; (try go_bits); refine hK _ _ ?_; clear hK K)
      refine n_step (fun K hK => ?_); go_simp; refine ⟨_, _, ⟨rfl, rfl⟩, rfl, fun x3 hx3 => ?_⟩
      refine (toSite_any s.x s.y s.r s.px s.py x3).mono ?_
      rintro e x4 ⟨rfl, hx4⟩
      refine ⟨_, rfl, hx4, hK _ _ ?_⟩
      clear hK K
      have hWg2 := (hWg.far hx3).far hx4
      have HQx4 := Lib.hid (below_thru (below_thru HQx2.out hx3) hx4)
      clear hx3 hx4
      repeat (refine n_step (fun K hK => ?_); go_simp; (try go_bits); refine hK _ _ ?_; clear hK K)
      refine n_step (fun K hK => ?_); go_simp; refine ⟨_, _, ⟨rfl, rfl⟩, rfl, fun x5 hx5 => ?_⟩
      refine (toReadingS_any v l x5 hsz2 (HV.out.far (below_thru HQx4.out hx5))).mono ?_
      rintro e x6 ⟨B3, rfl, hB3, hW3, hx6⟩
      refine ⟨_, rfl, hx6, hK _ _ ?_⟩
      clear hK K
      have hWg3 := (hWg2.far hx5).far hx6
      have HQx6 := Lib.hid (below_thru (below_thru HQx4.out hx5) hx6)
      clear hx5 hx6
      repeat (refine n_step (fun K hK => ?_); go_simp; (try go_bits); refine hK _ _ ?_; clear hK K)
      refine n_step (fun K hK => ?_); go_simp; refine ⟨_, _, ⟨rfl, rfl⟩, rfl, fun x7 hx7 => ?_⟩
      refine (specFitsWithin_any gs s hs _ _ l bd x7 hsz2 hgz ((hWg3.far hx7).at' hgrng) ((hW3.far hx7).at' hrng)).mono ?_
      unfold RetFits
      rw [H1.out, H2.out]
      rintro e x8 ⟨u0, rfl, hown0, hx8⟩
      refine ⟨_, rfl, hx8, hK _ _ ?_⟩
      clear hK K
      have HQx8 := Lib.hid (below_thru (below_thru HQx6.out hx7) hx8)
      clear hx7 hx8
      repeat (refine n_step (fun K hK => ?_); go_simp; (try go_bits); refine hK _ _ ?_; clear hK K)
      refine n_nil ?_
      rintro xE hxE _
      have HQxE := Lib.hid (below_thru HQx8.out hxE)
      have HSi1 := HSi.later HQxE.out
      have HV1 := Lib.hid (HV.out.far HQxE.out)
      have HGV1 := Lib.hid (HGV.out.far HQxE.out)
      have HB1 := Lib.hid (below_next HB.out HQxE.out)
      have HT0 := Lib.hid (show TsAt xE u0 (fun i => (natI r1).getD i 0) (natI r1).length from tsat_owned (by rw [← natI_len]; exact (owns_belowN hown0 hxE)))
      clear hown0
      have HBS := Lib.hid HQxE.out
      have HSiS := Lib.hid HSi
      have HVS := Lib.hid HV.out
      have HGVS := Lib.hid HGV.out
      clear HSi HV HGV HQxE hxE hW3 hWg hWg2 hWg3
      go_wp2_with fail
      refine (toAquiferS_any vg gs xE hgz HGV1.out).mono ?_
      rintro e w2 ⟨BG, rfl, hBG, hWG, hb2⟩
      have HSi2 := HSi1.later hb2
      have HV2 := Lib.hid (HV1.out.far hb2)
      have HGV2 := Lib.hid (HGV1.out.far hb2)
      have HB2 := Lib.hid (below_next HB1.out hb2)
      have HX2 := Lib.hid hb2
      have hlG : BG < w2.heap.size := by obtain ⟨cur, hc, _⟩ := hWG; exact hc.lt
      clear hb2 HSi1
      go_wp2_with fail
      refine (toReadingS_any v l w2 hsz2 HV2.out).mono ?_
      rintro e w3 ⟨BR, rfl, hBR, hWR, hb3⟩
      have HSi3 := HSi2.later hb3
      have HV3 := Lib.hid (HV2.out.far hb3)
      have HGV3 := Lib.hid (HGV2.out.far hb3)
      have HB3 := Lib.hid (below_next HB2.out hb3)
      have HX3 := Lib.hid (below_next HX2.out hb3)
      have hWG3 := hWG.far hb3
      have hlR : BR < w3.heap.size := by obtain ⟨cur, hc, _⟩ := hWR; exact hc.lt
      clear hb3 HSi2
      go_wp2_with ((with_reducible refine wpList_get HSi3 Try.underlying39 rfl (by kernel_rfl) ?_ ?_); rfl)
      refine (toSite_any s.x s.y s.r s.px s.py w3).mono ?_
      rintro e w4 ⟨rfl, hb4⟩
      have HV4 := Lib.hid (HV3.out.far hb4)
      have HGV4 := Lib.hid (HGV3.out.far hb4)
      have HB4 := Lib.hid (below_next HB3.out hb4)
      have HX4 := Lib.hid (below_next HX3.out hb4)
      have hSi4 := Lib.hid (HSi3.later hb4)
      have hWG4 := hWG3.far hb4
      have hWR4 := hWR.far hb4
      have hs4 := hb4.size
      clear hb4 HSi3 hWG hWG3 hWR
      go_wp2_with fail
      refine (FitsWithin_any gs s hs _ _ l bd w4 hsz2 hgz (hWG4.at' hgrng) (hWR4.at' hrng)).mono ?_
      unfold RetFits
      rw [H1.out, H2.out]
      rintro e w7 ⟨u1, rfl, hown1, hb7⟩
      have HV7 := Lib.hid (HV4.out.far hb7)
      have HGV7 := Lib.hid (HGV4.out.far hb7)
      have HB7 := Lib.hid (below_next HB4.out hb7)
      have HX7 := Lib.hid (below_next HX4.out hb7)
      have hSi7 := Lib.hid (hSi4.out.later hb7)
      have HWG7 := Lib.hid (hWG4.far hb7)
      have HWR7 := Lib.hid (hWR4.far hb7)
      have hs7 := hb7.size
      have HO7 := Lib.hid hown1
      have hTS7 : TsAt w7 u1 (fun i => (natI r1).getD i 0) (natI r1).length := tsat_owned (by rw [← natI_len]; exact hown1)
      clear hown1
      clear hb7 hWG4 hWR4
      go_wp2_with fail
      refine (eqInts_any u1 u0 _ _ w7 hnl hTS7 (HT0.out.far HX7.out)).mono ?_
      rintro e w8 ⟨rfl, hb8⟩
      clear hTS7
      have HB8 := Lib.hid (below_next HB7.out hb8)
      have HX8 := Lib.hid (below_next HX7.out hb8)
      have HV8 := Lib.hid (HV7.out.far hb8)
      have HGV8 := Lib.hid (HGV7.out.far hb8)
      have hSi8 := Lib.hid (hSi7.out.later hb8)
      have HWG8 := Lib.hid (HWG7.out.far hb8)
      have HWR8 := Lib.hid (HWR7.out.far hb8)
      have HO8 := Lib.hid (owns_belowN HO7.out hb8)
      have hs8 := hb8.size
      clear hb8
      go_wp2_with fail
      refine (toAquiferS_any vg gs w8 hgz HGV8.out).mono ?_
      rintro e w9 ⟨B9, rfl, hB9, hW9, hb9⟩
      have HB9 := Lib.hid (below_next HB8.out hb9)
      have HX9 := Lib.hid (below_next HX8.out hb9)
      have HV9 := Lib.hid (HV8.out.far hb9)
      have HGV9 := Lib.hid (HGV8.out.far hb9)
      have hSi9 := Lib.hid (hSi8.out.later hb9)
      have HWG9 := Lib.hid (HWG8.out.far hb9)
      have HWR9 := Lib.hid (HWR8.out.far hb9)
      have HO9 := Lib.hid (owns_belowN HO8.out hb9)
      have hs9 := hb9.size
      clear hb9
      go_wp2_with fail
      refine (eqAquiferS_any _ _ gs w9 hgz (HWG9.out.at' hgrng) (hW9.at' hgrng)).mono ?_
      rintro e w10 ⟨rfl, hb10⟩
      clear hW9
      have HB10 := Lib.hid (below_next HB9.out hb10)
      have HX10 := Lib.hid (below_next HX9.out hb10)
      have HV10 := Lib.hid (HV9.out.far hb10)
      have HGV10 := Lib.hid (HGV9.out.far hb10)
      have hSi10 := Lib.hid (hSi9.out.later hb10)
      have HWG10 := Lib.hid (HWG9.out.far hb10)
      have HWR10 := Lib.hid (HWR9.out.far hb10)
      have HO10 := Lib.hid (owns_belowN HO9.out hb10)
      have hs10 := hb10.size
      clear hb10
      go_wp2_with fail
      refine (toReadingS_any v l w10 hsz2 HV10.out).mono ?_
      rintro e w11 ⟨B11, rfl, hB11, hW11, hb11⟩
      have HB11 := Lib.hid (below_next HB10.out hb11)
      have HX11 := Lib.hid (below_next HX10.out hb11)
      have HV11 := Lib.hid (HV10.out.far hb11)
      have HGV11 := Lib.hid (HGV10.out.far hb11)
      have hSi11 := Lib.hid (hSi10.out.later hb11)
      have HWG11 := Lib.hid (HWG10.out.far hb11)
      have HWR11 := Lib.hid (HWR10.out.far hb11)
      have HO11 := Lib.hid (owns_belowN HO10.out hb11)
      have hs11 := hb11.size
      clear hb11
      go_wp2_with fail
      refine (eqReadingS_any _ _ l w11 hsz2 (HWR11.out.at' hrng) (hW11.at' hrng)).mono ?_
      rintro e w12 ⟨rfl, hb12⟩
      clear hW11
      have HB12 := Lib.hid (below_next HB11.out hb12)
      have HX12 := Lib.hid (below_next HX11.out hb12)
      have HV12 := Lib.hid (HV11.out.far hb12)
      have HGV12 := Lib.hid (HGV11.out.far hb12)
      have hSi12 := Lib.hid (hSi11.out.later hb12)
      have HWG12 := Lib.hid (HWG11.out.far hb12)
      have HWR12 := Lib.hid (HWR11.out.far hb12)
      have HO12 := Lib.hid (owns_belowN HO11.out hb12)
      have hs12 := hb12.size
      clear hb12
      obtain ⟨curG, hcG, hcGs, _⟩ := HWG12.out
      go_wp2_with fail
      refine (markAquiferS_any BG gs.length 1 curG w12 hgz (by omega) hcGs hcG).mono ?_
      rintro e w13 ⟨rfl, hg13⟩
      have hxE1 := HX2.out.size
      have hxE2 := HB1.out.size
      have hs12a := HB12.out.size
      have hneG : BG < w4.heap.size := by have := HX4.out.size; omega
      have HB13 := Lib.hid (below_grown HB12.out hg13 HB12.out.size (by omega))
      have HX13 := Lib.hid (below_grown HX12.out hg13 HX12.out.size hBG)
      have HO13 := Lib.hid (owns_farN HO12.out hg13 (fun q hq => by have := (HO12.out.lt q hq).1; omega))
      have hWR13 : ∃ cur, Blk w13 BR cur 81 ∧ cur.size = l.length * 2 := by
        obtain ⟨cur, h1, h2, _⟩ := HWR12.out
        exact ⟨cur, h1.grown hg13 (by omega), h2⟩
      have hs13 := hg13.size
      clear hcG hg13
      obtain ⟨curR, hcR, hcRs⟩ := hWR13
      go_wp2_with fail
      refine (markReadingS_any BR l.length _ curR w13 hsz2 (by omega) hcRs hcR).mono ?_
      rintro e w14 ⟨rfl, hg14⟩
      have hneR : BR < w4.heap.size := by have := HX4.out.size; omega
      have HB14 := Lib.hid (below_grown HB13.out hg14 HB13.out.size (by omega))
      have HX14 := Lib.hid (below_grown HX13.out hg14 HX13.out.size (by omega))
      have HO14 := Lib.hid (owns_farN HO13.out hg14 (fun q hq => by have := (HO13.out.lt q hq).1; omega))
      have hs14 := hg14.size
      have k0 : ¬ (1 + 2 * (gs.length : Int) + 2 * (l.length : Int) < 0) := by omega
      clear hcR hg14
      have hTS14 : TsAt w14 u1 (fun i => (natI r1).getD i 0) (natI r1).length := tsat_owned (by rw [← natI_len]; exact HO14.out)
      go_wp2_with fail
      refine (eqInts_any u1 u0 _ _ w14 hnl hTS14 (HT0.out.far HX14.out)).mono ?_
      rintro e w15 ⟨rfl, hb15⟩
      clear hTS14
      have HB15 := Lib.hid (below_next HB14.out hb15)
      have HX15 := Lib.hid (below_next HX14.out hb15)
      have HO15 := Lib.hid (owns_belowN HO14.out hb15)
      have hs15 := hb15.size
      clear hb15
      go_wp2_with fail
      refine (markInts_owns HO15.out hnl2).mono ?_
      rintro e w16 ⟨rfl, hc16, hb16⟩
      have HB16 := Lib.hid (HB15.out.trans (hb16.mono (by omega)))
      have HX16 := Lib.hid (HX15.out.trans (hb16.mono (by have := HX4.out.size; omega)))
      have HC16 := Lib.hid hc16
      clear hb16 hc16
      go_wp2_with fail
      refine (heldInts_any u1 _ w16 hnl2 HC16.out).mono ?_
      rintro e w17 ⟨rfl, hb17⟩
      have HB17 := Lib.hid (below_next HB16.out hb17)
      have HX17 := Lib.hid (below_next HX16.out hb17)
      have HC17 := Lib.hid (HC16.out.far hb17)
      have hs17 := hb17.size
      clear hb17
      have n3 : ¬ (1 + (r1.length : Int) < 0) := by omega
      have HXS17 := Lib.hid (HBS.out.trans (HX17.out.mono HBS.out.size))
      have HSi17 := HSiS.out.later HXS17.out
      have HV17 := Lib.hid (HVS.out.far HXS17.out)
      have HGV17 := Lib.hid (HGVS.out.far HXS17.out)
      go_wp2_with fail
      refine wp_chain [] (fun _ => #[]) (by kernel_rfl) (by kernel_rfl) ?_
      repeat (refine n_step (fun K hK => ?_); go_simp; (try go_bits); refine hK _ _ ?_; clear hK K)
      refine n_step (fun K hK => ?_); go_simp; refine ⟨_, _, ⟨rfl, rfl⟩, rfl, fun z1 hz1 => ?_⟩
      refine (toAquiferS_any vg gs z1 hgz (HGV17.out.far hz1)).mono ?_
      rintro e z2 ⟨Bg2, rfl, hBg2, hWh, hz2⟩
      refine ⟨_, rfl, hz2, hK _ _ ?_⟩
      clear hK K
      have HQz2 := Lib.hid (below_thru hz1 hz2)
      clear hz1 hz2
      repeat (refine n_step (fun K hK => ?_); go_simp; (try go_bits); refine hK _ _ ?_; clear hK K)
      (with_reducible refine n_get HSi17 (by simp) Try.underlying39 rfl (by kernel_rfl) ?_ ?_); rfl
      repeat (refine n_step (fun K hK => ?_); go_simp; (try go_bits); refine hK _ _ ?_; clear hK K)
      refine n_step (fun K hK => ?_); go_simp; refine ⟨_, _, ⟨rfl, rfl⟩, rfl, fun z3 hz3 => ?_⟩
      refine (toSite_any s.x s.y s.r s.px s.py z3).mono ?_
      rintro e z4 ⟨rfl, hz4⟩
      refine ⟨_, rfl, hz4, hK _ _ ?_⟩
      clear hK K
      have hWh2 := (hWh.far hz3).far hz4
      have HQz4 := Lib.hid (below_thru (below_thru HQz2.out hz3) hz4)
      clear hz3 hz4
      repeat (refine n_step (fun K hK => ?_); go_simp; (try go_bits); refine hK _ _ ?_; clear hK K)
      refine n_step (fun K hK => ?_); go_simp; refine ⟨_, _, ⟨rfl, rfl⟩, rfl, fun z5 hz5 => ?_⟩
      refine (toReadingS_any v l z5 hsz2 (HV17.out.far (below_thru HQz4.out hz5))).mono ?_
      rintro e z6 ⟨B13, rfl, hB13, hW13, hz6⟩
      refine ⟨_, rfl, hz6, hK _ _ ?_⟩
      clear hK K
      have hWh3 := (hWh2.far hz5).far hz6
      have HQz6 := Lib.hid (below_thru (below_thru HQz4.out hz5) hz6)
      clear hz5 hz6
      repeat (refine n_step (fun K hK => ?_); go_simp; (try go_bits); refine hK _ _ ?_; clear hK K)
      refine n_step (fun K hK => ?_); go_simp; refine ⟨_, _, ⟨rfl, rfl⟩, rfl, fun z7 hz7 => ?_⟩
      refine (FitsWithin_any gs s hs _ _ l bd z7 hsz2 hgz ((hWh3.far hz7).at' hgrng) ((hW13.far hz7).at' hrng)).mono ?_
      unfold RetFits
      rw [H1.out, H2.out]
      rintro e z8 ⟨u2, rfl, hown2, hz8⟩
      refine ⟨_, rfl, hz8, hK _ _ ?_⟩
      clear hK K
      have HQz8 := Lib.hid (below_thru (below_thru HQz6.out hz7) hz8)
      clear hz7 hz8
      repeat (refine n_step (fun K hK => ?_); go_simp; (try go_bits); refine hK _ _ ?_; clear hK K)
      refine n_nil ?_
      rintro zE hzE _
      have HQzE := Lib.hid (below_thru HQz8.out hzE)
      have HB18 := Lib.hid (below_next HB17.out HQzE.out)
      have HX18 := Lib.hid (below_next HX17.out HQzE.out)
      have HC18 := Lib.hid (HC17.out.far HQzE.out)
      have hTS18 : TsAt zE u2 (fun i => (natI r1).getD i 0) (natI r1).length := tsat_owned (by rw [← natI_len]; exact owns_belowN hown2 hzE)
      clear HQzE hzE hown2 hWh hWh2 hWh3 hW13
      go_wp2_with fail
      refine (eqInts_any u2 u0 _ _ zE hnl hTS18 (HT0.out.far HX18.out)).mono ?_
      rintro e w19 ⟨rfl, hb19⟩
      have HB19 := Lib.hid (below_next HB18.out hb19)
      have HC19 := Lib.hid (HC18.out.far hb19)
      clear hb19 hTS18
      go_wp2_with fail
      refine (heldInts_any u1 _ w19 hnl2 HC19.out).mono ?_
      rintro e w20 ⟨rfl, hb20⟩
      have HB20 := Lib.hid (below_next HB19.out hb20)
      clear hb20
      go_wp2_with fail
      go_ret
      exact ⟨rfl, HB20.out⟩
    · have n0 : ((-1 : Int) < 0) := by decide
      have n1 : ¬ (1048576 : Int) - (gs.length : Int) < 0 := by omega
      go_enter Try.func10, Try.ntmps10
      go_wp2_with (with_reducible refine wpList_box rfl ?_)
      intro bS wS hS1 hS2 hS3 hS4
      have HB := Lib.hid hS4
      have HV := Lib.hid (hv.far hS4)
      have HGV := Lib.hid (hg.far hS4)
      clear hS3 hS4
      go_wp2_with fail
      refine (szAquiferS_any vg gs _ hgl HGV.out).mono ?_
      rw [if_pos hgz]
      rintro e w' ⟨rfl, rfl⟩
      go_wp2_with fail
      refine (szReadingS_gen v l _ _ (by omega) hlen HV.out).mono ?_
      rw [if_neg (by omega)]
      rintro e w' ⟨rfl, rfl⟩
      go_wp2_with fail
      go_ret
      exact ⟨rfl, HB.out⟩
  · have n0 : ((-1 : Int) < 0) := by decide
    go_enter Try.func10, Try.ntmps10
    go_wp2_with (with_reducible refine wpList_box rfl ?_)
    intro bS wS hS1 hS2 hS3 hS4
    have HB := Lib.hid hS4
    have HGV := Lib.hid (hg.far hS4)
    clear hS3 hS4
    go_wp2_with fail
    refine (szAquiferS_any vg gs _ hgl HGV.out).mono ?_
    rw [if_neg hgz]
    rintro e w' ⟨rfl, rfl⟩
    go_wp2_with fail
    go_ret
    exact ⟨rfl, HB.out⟩
end Go.Proofs.Ytonmdkhfongmhaa
