/- The law on readings that are drawn up: its walk. -/
import Derived.Test.YtonmdkhfongmhaaTrdf
import Derived.Test.YtonmdkhfongmhaaTrmk
import Derived.Test.YtonmdkhfongmhaaChain
import Derived.Test.YtonmdkhfongmhaaTM1
namespace Go.Proofs.Ytonmdkhfongmhaa
open Go.RowKit

/-- A list of whole numbers in a block of its own. -/
def IBlk (w : World) (B : Nat) (f : Nat → Int) (n : Nat) : Prop := ∃ cur : Array Value, Blk w B cur 2 ∧ cur.size = n ∧ ∀ j, j < n → cur[j]? = some (.int .i64 (f j))
theorem IBlk.far {w w' : World} {B : Nat} {f : Nat → Int} {n : Nat} (h : IBlk w B f n) (hb : Below w.heap.size w w') : IBlk w' B f n := by
  obtain ⟨cur, h1, h2, h3⟩ := h
  exact ⟨cur, h1.later hb, h2, h3⟩
theorem IBlk.ts {w : World} {B : Nat} {f : Nat → Int} {n : Nat} (h : IBlk w B f n) : TsAt w (.slice (some ⟨B, 0, none⟩) n n) f n := by
  obtain ⟨cur, h1, h2, h3⟩ := h
  exact ⟨_, _, rfl, fun j hj => ⟨B, 0, rfl, by rw [Nat.zero_add]; exact h1.at (h3 j hj)⟩⟩
def CopyI (f : Nat → Int) (n : Nat) (wm : World) (B : Nat) (v : Value) (wr : World) : Prop :=
  ∃ (j : Nat) (cur : Array Value), j ≤ n ∧ v = .int .i64 j ∧ Blk wr B cur 2 ∧ cur.size = n ∧ (∀ i, i < j → cur[i]? = some (.int .i64 (f i))) ∧ wm.grownBy wr (some B)

set_option maxRecDepth 100000 in
set_option maxHeartbeats 1600000 in
theorem toInts_any (v : Value) (f : Nat → Int) (n : Nat) (w : World) (hlen : n ≤ 1048576) (hv : TsAt w v f n) :
    Calls Try.prog 25 #[v] w fun e w' => ∃ B, e = .returned (.slice (some ⟨B, 0, none⟩) n n) ∧ w.heap.size ≤ B ∧ IBlk w' B f n ∧ Below w.heap.size w w' := by
  obtain ⟨i0, hi, hz0, hz1, hz2⟩ := info_parts infoT64
  obtain ⟨aL, cap, rfl, hL⟩ := hv
  have HL := Lib.hid hL
  clear hL
  go_enter Try.func25, Try.ntmps25
  go_wp2_with (refine wpList_make_full _ rfl _ _ 50 rfl w.heap.size 2 i0 (.int .i64 0) 1 Try.underlying50 hi hz0 hz1 .i64 .i64 (n : Int) (n : Int) n rfl rfl rfl rfl (by rw [hz2]; omega) (by unfold maxLen; omega) (Nat.le_refl _) ?_)
  intro w1 hown hgr
  obtain ⟨B, hBe⟩ : ∃ B, w.heap.size = B := ⟨_, rfl⟩
  have hbel1 : Hid (Below w.heap.size w w1) := ⟨hgr.os, hgr.tape, hgr.output, hgr.size, fun k hk => hgr.block k hk (by simp)⟩
  have HK1 : Hid (∃ cur, Blk w1 B cur 2 ∧ cur.size = n) := by
    obtain ⟨_, h2 | ⟨g, cap', cur, he, hb, hg, hn, hm, hs, _⟩⟩ := hown
    · cases h2.1
    · cases he
      rw [hBe] at hg
      exact ⟨cur, hg, by omega⟩
  rw [hBe]
  have HBE := Lib.hid hBe
  clear hown hgr hBe
  go_wp2_with fail
  go_loopw [4] (fun v4 wr => CopyI f n w1 B v4 wr) (fun v4 _ => n - (intOf v4).toNat)
  case atStart =>
    obtain ⟨cur, h1, h2⟩ := HK1.out
    exact ⟨0, cur, by omega, rfl, h1, h2, fun i hi => absurd hi (by omega), grown_refl _ _⟩
  case round =>
    obtain ⟨j, cur, hj, rfl, hb, hsz, hall, hgr⟩ := hrel
    have HB := Lib.hid hb
    have HALL := Lib.hid hall
    have HGR := Lib.hid hgr
    clear hb hall hgr
    by_cases hlt : j < n
    · obtain ⟨g, o, rfl, hq⟩ := HL.out j hlt
      have hgB : g < B := by rw [← HBE.out]; exact block_lt_of_cell hq
      have hqc := cell_grown (cell_below hbel1.out hq) HGR.out (by omega)
      have j1 : (j : Int) < (n : Int) := by omega
      clear hq
      go_wp2_with ((with_reducible refine wpList_gateS ?_); refine wpList_put1 (i := j) (v := .int .i64 (f j)) size64 HB.out (by omega) ?_ ?_ rfl rfl ?_; rfl; rfl)
      intro w3 s3 b3 k3
      have B3 := Lib.hid b3
      have K3 := Lib.hid (grown_trans HGR.out k3)
      clear b3 k3
      go_wp2_with fail
      go_roundw
      case rel =>
        refine ⟨j + 1, _, by omega, by go_num, B3.out, by simpa using hsz, fun i hi => ?_, K3.out⟩
        rw [Array.getElem?_setIfInBounds]
        by_cases e : j = i
        · subst e; rw [if_pos rfl, if_pos (by omega)]
        · rw [if_neg e]; exact HALL.out i (by omega)
      case measure => simp [intOf]; omega
    · have j1 : ¬ (j : Int) < (n : Int) := by omega
      obtain rfl : j = n := by omega
      go_wp2_with fail
      go_ret
      refine ⟨B, rfl, by rw [HBE.out]; exact Nat.le_refl _, ⟨cur, HB.out, hsz, HALL.out⟩, ?_⟩
      exact below_grown hbel1.out HGR.out hbel1.out.size (by rw [HBE.out]; exact Nat.le_refl _)

set_option maxRecDepth 100000 in
set_option maxHeartbeats 6400000 in
theorem law_ReadingsFrom (a : Aq) (s : Si) (v : Value) (f : Nat → Int) (n : Nat) (w : World) (hs : s.Rng) (hlen : n < 9223372036854775808) (hf : ∀ j, j < n → -9223372036854775808 ≤ f j ∧ f j ≤ 9223372036854775807) (hv : TsAt w v f n) :
    Calls Try.prog 6 #[.agg #[.float .f32 a.T, .float .f32 a.S], .agg s.cells, v] w (RetB true w) := by
  obtain ⟨aL, cap, rfl, hL⟩ := hv
  have hv : TsAt w (.slice aL n cap) f n := ⟨aL, cap, rfl, hL⟩
  clear hL
  by_cases hsz : n ≤ 1048576
  · obtain ⟨R, hR⟩ : ∃ R, rdR a s f n = R := ⟨_, rfl⟩
    obtain ⟨c, hc⟩ : ∃ c, rdC a s f n = c := ⟨_, rfl⟩
    have hR40 : R.length ≤ 40 := by rw [← hR]; exact rdR_len a s f n
    have hRR : ∀ e ∈ R, e.Rng := by rw [← hR]; exact rdR_rng hf
    have hR20 : R.length ≤ 1048576 := by omega
    have HRR := Lib.hid hR
    have HCC := Lib.hid hc
    clear hR hc
    have n0 : ¬ (1048576 : Int) < (n : Int) := by omega
    go_enter Try.func6, Try.ntmps6
    go_wp2_with (with_reducible refine wpList_box rfl ?_)
    intro bA wA hA1 hA2 hA3 hA4
    go_wp2_with (with_reducible refine wpList_box rfl ?_)
    intro bS wS hS1 hS2 hS3 hS4
    have HA := hA3.later hS4
    have HSi := hS3
    have HB := Lib.hid (below_next hA4 hS4)
    have HT := Lib.hid ((hv.far hA4).far hS4)
    clear hA3 hA4 hS3 hS4 hv
    go_wp2_with fail
    refine wp_chain [] (fun _ => #[]) (by kernel_rfl) (by kernel_rfl) ?_
    repeat (refine n_step (fun K hK => ?_); go_simp; (try go_bits); refine hK _ _ ?_; clear hK K)
    (with_reducible refine n_get HA (by simp) Try.underlying34 rfl (by kernel_rfl) ?_ ?_); rfl
    repeat (refine n_step (fun K hK => ?_); go_simp; (try go_bits); refine hK _ _ ?_; clear hK K)
    refine n_step (fun K hK => ?_); go_simp; refine ⟨_, _, ⟨rfl, rfl⟩, rfl, fun x1 hx1 => ?_⟩
    refine (toAquifer_any a.T a.S x1).mono ?_
    rintro e x2 ⟨rfl, hx2⟩
    refine ⟨_, rfl, hx2, hK _ _ ?_⟩
    clear hK K
    have HQx2 := Lib.hid (below_thru hx1 hx2)
    clear hx1 hx2
    repeat (refine n_step (fun K hK => ?_); go_simp; (try go_bits); refine hK _ _ ?_; clear hK K)
    (with_reducible refine n_get HSi (by simp) Try.underlying39 rfl (by kernel_rfl) ?_ ?_); rfl
    repeat (refine n_step (fun K hK => ?_); go_simp; (try go_bits); refine hK _ _ ?_; clear hK K)
    refine n_step (fun K hK => ?_); go_simp; refine ⟨_, _, ⟨rfl, rfl⟩, rfl, fun x3 hx3 => ?_⟩
    refine (toSite_any s.x s.y s.r s.px s.py x3).mono ?_
    rintro e x4 ⟨rfl, hx4⟩
    refine ⟨_, rfl, hx4, hK _ _ ?_⟩
    clear hK K
    have HQx4 := Lib.hid (below_thru (below_thru HQx2.out hx3) hx4)
    clear hx3 hx4
    repeat (refine n_step (fun K hK => ?_); go_simp; (try go_bits); refine hK _ _ ?_; clear hK K)
    refine n_step (fun K hK => ?_); go_simp; refine ⟨_, _, ⟨rfl, rfl⟩, rfl, fun x5 hx5 => ?_⟩
    refine (toInts_any _ f n x5 hsz (HT.out.far (below_thru HQx4.out hx5))).mono ?_
    rintro e x6 ⟨B3, rfl, hB3, hW3, hx6⟩
    refine ⟨_, rfl, hx6, hK _ _ ?_⟩
    clear hK K
    have HQx6 := Lib.hid (below_thru (below_thru HQx4.out hx5) hx6)
    clear hx5 hx6
    repeat (refine n_step (fun K hK => ?_); go_simp; (try go_bits); refine hK _ _ ?_; clear hK K)
    refine n_step (fun K hK => ?_); go_simp; refine ⟨_, _, ⟨rfl, rfl⟩, rfl, fun x7 hx7 => ?_⟩
    refine (specRdf_any a s hs _ f n x7 hsz (hW3.far hx7).ts).mono ?_
    unfold RetRdf
    rw [HRR.out, HCC.out]
    rintro e x8 ⟨u0, rfl, ho0, hx8⟩
    refine ⟨_, rfl, hx8, hK _ _ ?_⟩
    clear hK K
    have HQx8 := Lib.hid (below_thru (below_thru HQx6.out hx7) hx8)
    clear hx7 hx8
    repeat (refine n_step (fun K hK => ?_); go_simp; (try go_bits); refine hK _ _ ?_; clear hK K)
    refine n_nil ?_
    rintro xE hxE _
    have HQxE := Lib.hid (below_thru HQx8.out hxE)
    have HRx := Lib.hid (rat_owned (owns_belowN ho0 hxE) hRR)
    have HA1 := HA.later HQxE.out
    have HSi1 := HSi.later HQxE.out
    have HT1 := Lib.hid (HT.out.far HQxE.out)
    have HB1 := Lib.hid (below_next HB.out HQxE.out)
    clear HA HSi HT HQxE hxE hW3 ho0
    go_wp2_with fail
    refine (toInts_any _ f n xE hsz HT1.out).mono ?_
    rintro e w2 ⟨BI, rfl, hBI, hWI, hb2⟩
    have HA2 := HA1.later hb2
    have HSi2 := HSi1.later hb2
    have HT2 := Lib.hid (HT1.out.far hb2)
    have HB2 := Lib.hid (below_next HB1.out hb2)
    have HX2 := Lib.hid hb2
    have hlI : BI < w2.heap.size := by obtain ⟨cur, hc, _⟩ := hWI; exact hc.lt
    have HA1s := Lib.hid HA1
    have HSi1s := Lib.hid HSi1
    clear hb2 HA1 HSi1
    go_wp2_with fail
    refine wp_chain [] (fun _ => #[]) (by kernel_rfl) (by kernel_rfl) ?_
    repeat (refine n_step (fun K hK => ?_); go_simp; (try go_bits); refine hK _ _ ?_; clear hK K)
    (with_reducible refine n_get HA2 (by simp) Try.underlying34 rfl (by kernel_rfl) ?_ ?_); rfl
    repeat (refine n_step (fun K hK => ?_); go_simp; (try go_bits); refine hK _ _ ?_; clear hK K)
    refine n_step (fun K hK => ?_); go_simp; refine ⟨_, _, ⟨rfl, rfl⟩, rfl, fun y1 hy1 => ?_⟩
    refine (toAquifer_any a.T a.S y1).mono ?_
    rintro e y2 ⟨rfl, hy2⟩
    refine ⟨_, rfl, hy2, hK _ _ ?_⟩
    clear hK K
    have HQy2 := Lib.hid (below_thru hy1 hy2)
    clear hy1 hy2
    repeat (refine n_step (fun K hK => ?_); go_simp; (try go_bits); refine hK _ _ ?_; clear hK K)
    (with_reducible refine n_get HSi2 (by simp) Try.underlying39 rfl (by kernel_rfl) ?_ ?_); rfl
    repeat (refine n_step (fun K hK => ?_); go_simp; (try go_bits); refine hK _ _ ?_; clear hK K)
    refine n_step (fun K hK => ?_); go_simp; refine ⟨_, _, ⟨rfl, rfl⟩, rfl, fun y3 hy3 => ?_⟩
    refine (toSite_any s.x s.y s.r s.px s.py y3).mono ?_
    rintro e y4 ⟨rfl, hy4⟩
    refine ⟨_, rfl, hy4, hK _ _ ?_⟩
    clear hK K
    have HQy4 := Lib.hid (below_thru (below_thru HQy2.out hy3) hy4)
    clear hy3 hy4
    repeat (refine n_step (fun K hK => ?_); go_simp; (try go_bits); refine hK _ _ ?_; clear hK K)
    refine n_step (fun K hK => ?_); go_simp; refine ⟨_, _, ⟨rfl, rfl⟩, rfl, fun y5 hy5 => ?_⟩
    refine (Rdf_any a s hs _ f n y5 hsz (hWI.far (below_thru HQy4.out hy5)).ts).mono ?_
    unfold RetRdf
    rw [HRR.out, HCC.out]
    rintro e y6 ⟨u1, rfl, ho1, hy6⟩
    refine ⟨_, rfl, hy6, hK _ _ ?_⟩
    clear hK K
    have hmo1 := owns_monoN (base := w2.heap.size) ho1 (below_thru HQy4.out hy5).size
    have HQy6 := Lib.hid (below_thru (below_thru HQy4.out hy5) hy6)
    clear hy5 hy6
    repeat (refine n_step (fun K hK => ?_); go_simp; (try go_bits); refine hK _ _ ?_; clear hK K)
    refine n_nil ?_
    rintro yE hyE _
    have HQyE := Lib.hid (below_thru HQy6.out hyE)
    have HO7 := Lib.hid (owns_belowN hmo1 hyE)
    have HA7 := HA2.later HQyE.out
    have HSi7 := HSi2.later HQyE.out
    have HT7 := Lib.hid (HT2.out.far HQyE.out)
    have HW7 := Lib.hid (hWI.far HQyE.out)
    have HB7 := Lib.hid (below_next HB2.out HQyE.out)
    have HX7 := Lib.hid (below_next HX2.out HQyE.out)
    have HY7 := Lib.hid HQyE.out
    clear HT2 HQyE hyE hWI ho1 hmo1
    have hR7 := rat_owned HO7.out hRR
    go_wp2_with fail
    refine (eqReadingS_any _ _ R yE hR20 hR7 (HRx.out.far HX7.out)).mono ?_
    rintro e w8 ⟨rfl, hb8⟩
    clear hR7
    have HB8 := Lib.hid (below_next HB7.out hb8)
    have HX8 := Lib.hid (below_next HX7.out hb8)
    have HY8 := Lib.hid (below_next HY7.out hb8)
    have HO8 := Lib.hid (owns_belowN HO7.out hb8)
    have HA8 := HA7.later hb8
    have HSi8 := HSi7.later hb8
    have HT8 := Lib.hid (HT7.out.far hb8)
    have HW8 := Lib.hid (HW7.out.far hb8)
    have hs8 := hb8.size
    clear hb8
    go_wp2_with fail
    refine (toInts_any _ f n w8 hsz HT8.out).mono ?_
    rintro e w9 ⟨B9, rfl, hB9, hW9, hb9⟩
    have HB9 := Lib.hid (below_next HB8.out hb9)
    have HX9 := Lib.hid (below_next HX8.out hb9)
    have HY9 := Lib.hid (below_next HY8.out hb9)
    have HO9 := Lib.hid (owns_belowN HO8.out hb9)
    have HA9 := HA8.later hb9
    have HSi9 := HSi8.later hb9
    have HT9 := Lib.hid (HT8.out.far hb9)
    have HW9 := Lib.hid (HW8.out.far hb9)
    have hs9 := hb9.size
    clear hb9
    go_wp2_with fail
    refine (eqInts_any _ _ f n w9 hsz HW9.out.ts hW9.ts).mono ?_
    rintro e w10 ⟨rfl, hb10⟩
    clear hW9
    have HB10 := Lib.hid (below_next HB9.out hb10)
    have HX10 := Lib.hid (below_next HX9.out hb10)
    have HY10 := Lib.hid (below_next HY9.out hb10)
    have HO10 := Lib.hid (owns_belowN HO9.out hb10)
    have HA10 := HA9.later hb10
    have HSi10 := HSi9.later hb10
    have HT10 := Lib.hid (HT9.out.far hb10)
    have HW10 := Lib.hid (HW9.out.far hb10)
    have hs10 := hb10.size
    clear hb10
    obtain ⟨cur, hcur, hcs, _⟩ := HW10.out
    go_wp2_with fail
    refine (markInts_any BI n n cur w10 hsz (Nat.le_refl _) hcs hcur).mono ?_
    rintro e w11 ⟨rfl, _, hg11⟩
    have hsx := HX10.out.size
    have HB11 := Lib.hid (below_grown HB10.out hg11 HB10.out.size (by have := HB1.out.size; omega))
    have HX11 := Lib.hid (below_grown HX10.out hg11 HX10.out.size hBI)
    have HO11 := Lib.hid (owns_farN HO10.out hg11 (fun q hq => by have := (HO10.out.lt q hq).1; omega))
    have hY11 : w2.heap.size ≤ w11.heap.size := Nat.le_trans HY10.out.size hg11.size
    have HA11 := HA1s.out.later HX11.out
    have HSi11 := HSi1s.out.later HX11.out
    have HT11 := Lib.hid (HT1.out.far HX11.out)
    have hs11 := hg11.size
    have k0 : ¬ (1 + (n : Int) < 0) := by omega
    clear hg11 hcur hcs
    have hR11 := rat_owned HO11.out hRR
    go_wp2_with fail
    refine (eqReadingS_any _ _ R w11 hR20 hR11 (HRx.out.far HX11.out)).mono ?_
    rintro e w12 ⟨rfl, hb12⟩
    clear hR11
    have HB12 := Lib.hid (below_next HB11.out hb12)
    have HX12 := Lib.hid (below_next HX11.out hb12)
    have HO12 := Lib.hid (owns_belowN HO11.out hb12)
    have hs12 := hb12.size
    clear hb12
    go_wp2_with fail
    refine (markReads_owns HO12.out hR40).mono ?_
    rintro e w13 ⟨rfl, hc13, hb13⟩
    have HB13 := Lib.hid (HB12.out.trans (hb13.mono (by have := HB2.out.size; omega)))
    have HX13 := Lib.hid (HX12.out.trans (hb13.mono HX2.out.size))
    have HC13 := Lib.hid hc13
    have HA13 := HA1s.out.later HX13.out
    have HSi13 := HSi1s.out.later HX13.out
    have HT13 := Lib.hid (HT1.out.far HX13.out)
    clear hb13 hc13
    go_wp2_with fail
    refine (heldReads_any u1 _ w13 hR40 HC13.out).mono ?_
    rintro e w14 ⟨rfl, rfl⟩
    have n3 : ¬ (1 + 2 * (R.length : Int) < 0) := by omega
    go_wp2_with fail
    refine wp_chain [] (fun _ => #[]) (by kernel_rfl) (by kernel_rfl) ?_
    repeat (refine n_step (fun K hK => ?_); go_simp; (try go_bits); refine hK _ _ ?_; clear hK K)
    (with_reducible refine n_get HA13 (by simp) Try.underlying34 rfl (by kernel_rfl) ?_ ?_); rfl
    repeat (refine n_step (fun K hK => ?_); go_simp; (try go_bits); refine hK _ _ ?_; clear hK K)
    refine n_step (fun K hK => ?_); go_simp; refine ⟨_, _, ⟨rfl, rfl⟩, rfl, fun z1 hz1 => ?_⟩
    refine (toAquifer_any a.T a.S z1).mono ?_
    rintro e z2 ⟨rfl, hz2⟩
    refine ⟨_, rfl, hz2, hK _ _ ?_⟩
    clear hK K
    have HQz2 := Lib.hid (below_thru hz1 hz2)
    clear hz1 hz2
    repeat (refine n_step (fun K hK => ?_); go_simp; (try go_bits); refine hK _ _ ?_; clear hK K)
    (with_reducible refine n_get HSi13 (by simp) Try.underlying39 rfl (by kernel_rfl) ?_ ?_); rfl
    repeat (refine n_step (fun K hK => ?_); go_simp; (try go_bits); refine hK _ _ ?_; clear hK K)
    refine n_step (fun K hK => ?_); go_simp; refine ⟨_, _, ⟨rfl, rfl⟩, rfl, fun z3 hz3 => ?_⟩
    refine (toSite_any s.x s.y s.r s.px s.py z3).mono ?_
    rintro e z4 ⟨rfl, hz4⟩
    refine ⟨_, rfl, hz4, hK _ _ ?_⟩
    clear hK K
    have HQz4 := Lib.hid (below_thru (below_thru HQz2.out hz3) hz4)
    clear hz3 hz4
    repeat (refine n_step (fun K hK => ?_); go_simp; (try go_bits); refine hK _ _ ?_; clear hK K)
    refine n_step (fun K hK => ?_); go_simp; refine ⟨_, _, ⟨rfl, rfl⟩, rfl, fun z5 hz5 => ?_⟩
    refine (toInts_any _ f n z5 hsz (HT13.out.far (below_thru HQz4.out hz5))).mono ?_
    rintro e z6 ⟨B4, rfl, hB4, hW4, hz6⟩
    refine ⟨_, rfl, hz6, hK _ _ ?_⟩
    clear hK K
    have HQz6 := Lib.hid (below_thru (below_thru HQz4.out hz5) hz6)
    clear hz5 hz6
    repeat (refine n_step (fun K hK => ?_); go_simp; (try go_bits); refine hK _ _ ?_; clear hK K)
    refine n_step (fun K hK => ?_); go_simp; refine ⟨_, _, ⟨rfl, rfl⟩, rfl, fun z7 hz7 => ?_⟩
    refine (Rdf_any a s hs _ f n z7 hsz (hW4.far hz7).ts).mono ?_
    unfold RetRdf
    rw [HRR.out, HCC.out]
    rintro e z8 ⟨u2, rfl, ho2, hz8⟩
    refine ⟨_, rfl, hz8, hK _ _ ?_⟩
    clear hK K
    have HQz8 := Lib.hid (below_thru (below_thru HQz6.out hz7) hz8)
    clear hz7 hz8
    repeat (refine n_step (fun K hK => ?_); go_simp; (try go_bits); refine hK _ _ ?_; clear hK K)
    refine n_nil ?_
    rintro zE hzE _
    have HQzE := Lib.hid (below_thru HQz8.out hzE)
    have hR15 := rat_owned (owns_belowN ho2 hzE) hRR
    have HB15 := Lib.hid (below_next HB13.out HQzE.out)
    have HX15 := Lib.hid (below_next HX13.out HQzE.out)
    have HC15 := Lib.hid (HC13.out.far HQzE.out)
    clear HQzE hzE hW4 ho2
    go_wp2_with fail
    refine (eqReadingS_any _ _ R zE hR20 hR15 (HRx.out.far HX15.out)).mono ?_
    rintro e w16 ⟨rfl, hb16⟩
    clear hR15
    have HB16 := Lib.hid (below_next HB15.out hb16)
    have HC16 := Lib.hid (HC15.out.far hb16)
    clear hb16
    go_wp2_with fail
    refine (heldReads_any u1 _ w16 hR40 HC16.out).mono ?_
    rintro e w17 ⟨rfl, rfl⟩
    go_wp2_with fail
    go_ret
    exact ⟨rfl, HB16.out⟩
  · have n0 : (1048576 : Int) < (n : Int) := by omega
    go_enter Try.func6, Try.ntmps6
    go_wp2_with (with_reducible refine wpList_box rfl ?_)
    intro bA wA hA1 hA2 hA3 hA4
    go_wp2_with (with_reducible refine wpList_box rfl ?_)
    intro bS wS hS1 hS2 hS3 hS4
    have HB := Lib.hid (below_next hA4 hS4)
    clear hA3 hA4 hS3 hS4
    go_wp2_with fail
    go_ret
    exact ⟨rfl, HB.out⟩
end Go.Proofs.Ytonmdkhfongmhaa
