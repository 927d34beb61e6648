/- The law on readings that are smoothed: its walk. -/
import Derived.Test.YtonmdkhfongmhaaTrmk
import Derived.Test.YtonmdkhfongmhaaTM1
namespace Go.Proofs.Ytonmdkhfongmhaa
open Go.RowKit

set_option maxRecDepth 100000 in
set_option maxHeartbeats 3200000 in
theorem law_SmoothedReadings (v : Value) (l : List Rd) (w : World) (hlen : l.length < 9223372036854775808) (hv : RLAt w v l) :
    Calls Try.prog 9 #[v] w (RetB true w) := by
  have hrng := hv.rng
  have HV0 := Lib.hid hv
  clear hv
  by_cases hsz : l.length ≤ 1048576
  · obtain ⟨R, hR⟩ : ∃ R, smR l = R := ⟨_, rfl⟩
    obtain ⟨c, hc⟩ : ∃ c, codeR l = c := ⟨_, rfl⟩
    have hR40 : R.length ≤ 40 := by rw [← hR]; exact smR_len l
    have hRR : ∀ e ∈ R, e.Rng := by rw [← hR]; exact smR_rng hrng
    have hR20 : R.length ≤ 1048576 := by omega
    have HRR := Lib.hid hR
    have HCC := Lib.hid hc
    clear hR hc
    have n0 : ¬ (1048576 : Int) - (l.length : Int) < 0 := by omega
    go_enter Try.func9, Try.ntmps9
    go_wp2_with fail
    refine (szReadingS_any v l _ hlen HV0.out).mono ?_
    rw [if_pos hsz]
    rintro e w' ⟨rfl, rfl⟩
    have HB0 := Lib.hid (Below.refl w.heap.size w)
    go_wp2_with fail
    refine (toReadingS_any v l w hsz HV0.out).mono ?_
    rintro e w1 ⟨B1, rfl, hB1, hW1, hb1⟩
    have HW1 := Lib.hid hW1
    clear hW1
    have HB1 := Lib.hid (below_next HB0.out hb1)
    have HV1 := Lib.hid (HV0.out.far hb1)
    have hs1 := hb1.size
    clear hb1
    go_wp2_with fail
    refine (specSmo_any B1 l.length l w1 hsz (HW1.out.at' hrng)).mono ?_
    unfold RetSmo
    rw [HRR.out, HCC.out]
    rintro e w2 ⟨u0, rfl, ho0, hb2⟩
    have HR2 := Lib.hid (rat_owned ho0 hRR)
    clear ho0
    have HB2 := Lib.hid (below_next HB1.out hb2)
    have HV2 := Lib.hid (HV1.out.far hb2)
    have hs2 := hb2.size
    clear hb2
    go_wp2_with fail
    refine (toReadingS_any v l w2 hsz HV2.out).mono ?_
    rintro e w3 ⟨B3, rfl, hB3, hW3, hb3⟩
    have hbX3 := Lib.hid hb3
    have HW3 := Lib.hid hW3
    clear hW3
    have HB3 := Lib.hid (below_next HB2.out hb3)
    have HV3 := Lib.hid (HV2.out.far hb3)
    have HR3 := Lib.hid (HR2.out.far hb3)
    have hs3 := hb3.size
    clear hb3
    go_wp2_with fail
    refine (Smo_any B3 l.length l w3 hsz (HW3.out.at' hrng)).mono ?_
    unfold RetSmo
    rw [HRR.out, HCC.out]
    rintro e w4 ⟨u1, rfl, ho1, hb4⟩
    have HO4 := Lib.hid ho1
    have HX4 := Lib.hid hb4
    have hR4 := rat_owned ho1 hRR
    clear ho1
    have HB4 := Lib.hid (below_next HB3.out hb4)
    have HV4 := Lib.hid (HV3.out.far hb4)
    have HR4 := Lib.hid (HR3.out.far hb4)
    have HW4 := Lib.hid (HW3.out.far hb4)
    have hs4 := hb4.size
    clear hb4
    have hB3l : B3 < w3.heap.size := by obtain ⟨cur, h1, _⟩ := HW3.out; exact h1.lt
    go_wp2_with fail
    refine (eqReadingS_any _ _ R w4 hR20 hR4 HR4.out).mono ?_
    rintro e w5 ⟨rfl, hb5⟩
    have HB5 := Lib.hid (below_next HB4.out hb5)
    have HV5 := Lib.hid (HV4.out.far hb5)
    have HR5 := Lib.hid (HR4.out.far hb5)
    have HW5 := Lib.hid (HW4.out.far hb5)
    have HO5 := Lib.hid (owns_belowN HO4.out hb5)
    have HX5 := Lib.hid (below_next HX4.out hb5)
    have hs5 := hb5.size
    clear hb5
    clear hR4
    go_wp2_with fail
    refine (toReadingS_any v l w5 hsz HV5.out).mono ?_
    rintro e w6 ⟨B6, rfl, hB6, hY6, hb6⟩
    have HY6 := Lib.hid hY6
    clear hY6
    have HW6 := Lib.hid (HW5.out.far hb6)
    have HB6 := Lib.hid (below_next HB5.out hb6)
    have HV6 := Lib.hid (HV5.out.far hb6)
    have HR6 := Lib.hid (HR5.out.far hb6)
    have HO6 := Lib.hid (owns_belowN HO5.out hb6)
    have HX6 := Lib.hid (below_next HX5.out hb6)
    have hs6 := hb6.size
    clear hb6
    go_wp2_with fail
    refine (eqReadingS_any _ _ l w6 hsz (HW6.out.at' hrng) (HY6.out.at' hrng)).mono ?_
    rintro e w7 ⟨rfl, hb7⟩
    have HB7 := Lib.hid (below_next HB6.out hb7)
    have HV7 := Lib.hid (HV6.out.far hb7)
    have HR7 := Lib.hid (HR6.out.far hb7)
    have HW7 := Lib.hid (HW6.out.far hb7)
    have HO7 := Lib.hid (owns_belowN HO6.out hb7)
    have HX7 := Lib.hid (below_next HX6.out hb7)
    have hs7 := hb7.size
    clear hb7
    obtain ⟨cur, hcur, hcs, _⟩ := HW7.out
    go_wp2_with fail
    refine (markReadingS_any B3 l.length 1 cur w7 hsz (by omega) hcs hcur).mono ?_
    rintro e w8 ⟨rfl, hg8⟩
    have HB8 := Lib.hid (below_grown HB7.out hg8 HB7.out.size (by omega))
    have HO8 := Lib.hid (owns_farN HO7.out hg8 (fun q hq => by have := (HO7.out.lt q hq).1; omega))
    have HVX : Hid (Below w2.heap.size w2 w8) := below_grown (below_next (below_next hbX3.out HX7.out) (Below.refl _ _)) hg8 (below_next hbX3.out HX7.out).size hB3
    have HV8 := Lib.hid (HV2.out.far HVX.out)
    have HR8 := Lib.hid (HR2.out.far HVX.out)
    have HX8 : Hid (w3.heap.size ≤ w8.heap.size) := by have h1 := HX7.out.size; have h2 := hg8.size; show _ ≤ _; omega
    have hs8 := hg8.size
    have k0 : ¬ (1 + 2 * (l.length : Int) < 0) := by omega
    clear hg8 hcur hcs
    have hR8 := rat_owned HO8.out hRR
    go_wp2_with fail
    refine (eqReadingS_any _ _ R w8 hR20 hR8 HR8.out).mono ?_
    rintro e w9 ⟨rfl, hb9⟩
    have HB89 := Lib.hid hb9
    have HB9 := Lib.hid (below_next HB8.out hb9)
    have HV9 := Lib.hid (HV8.out.far hb9)
    have HR9 := Lib.hid (HR8.out.far hb9)
    have HO9 := Lib.hid (owns_belowN HO8.out hb9)
    have hs9 := hb9.size
    clear hb9
    clear hR8
    go_wp2_with fail
    refine (markReads_owns HO9.out hR40).mono ?_
    rintro e w10 ⟨rfl, hc10, hb10⟩
    have HB10 := Lib.hid (HB9.out.trans (hb10.mono (by omega)))
    have hbz : Below w2.heap.size w2 w10 := (below_next HVX.out (HB89.out)).trans (hb10.mono (by omega))
    have HV10 := Lib.hid (HV2.out.far hbz)
    have HR10 := Lib.hid (HR2.out.far hbz)
    have HC10 := Lib.hid hc10
    have hs10 := hb10.size
    clear hb10 hc10 hbz
    go_wp2_with fail
    refine (heldReads_any u1 _ w10 hR40 HC10.out).mono ?_
    rintro e w11 ⟨rfl, rfl⟩
    have n3 : ¬ (1 + 2 * (R.length : Int) < 0) := by omega
    go_wp2_with fail
    refine (toReadingS_any v l w10 hsz HV10.out).mono ?_
    rintro e w12 ⟨B12, rfl, hB12, hW12, hb12⟩
    have HW12 := Lib.hid hW12
    clear hW12
    have HB12 := Lib.hid (below_next HB10.out hb12)
    have HR12 := Lib.hid (HR10.out.far hb12)
    have HC12 := Lib.hid (HC10.out.far hb12)
    have hs12 := hb12.size
    clear hb12
    go_wp2_with fail
    refine (Smo_any B12 l.length l w12 hsz (HW12.out.at' hrng)).mono ?_
    unfold RetSmo
    rw [HRR.out, HCC.out]
    rintro e w13 ⟨u2, rfl, ho2, hb13⟩
    have hR13 := rat_owned ho2 hRR
    clear ho2
    have HB13 := Lib.hid (below_next HB12.out hb13)
    have HR13 := Lib.hid (HR12.out.far hb13)
    have HC13 := Lib.hid (HC12.out.far hb13)
    have hs13 := hb13.size
    clear hb13
    go_wp2_with fail
    refine (eqReadingS_any _ _ R w13 hR20 hR13 HR13.out).mono ?_
    rintro e w14 ⟨rfl, hb14⟩
    have HB14 := Lib.hid (below_next HB13.out hb14)
    have HC14 := Lib.hid (HC13.out.far hb14)
    have hs14 := hb14.size
    clear hb14
    clear hR13
    go_wp2_with fail
    refine (heldReads_any u1 _ w14 hR40 HC14.out).mono ?_
    rintro e w15 ⟨rfl, rfl⟩
    go_wp2_with fail
    go_ret
    exact ⟨rfl, HB14.out⟩
  · have n0 : ((-1 : Int) < 0) := by decide
    go_enter Try.func9, Try.ntmps9
    go_wp2_with fail
    refine (szReadingS_any v l _ hlen HV0.out).mono ?_
    rw [if_neg hsz]
    rintro e w' ⟨rfl, rfl⟩
    go_wp2_with fail
    go_ret
    exact ⟨rfl, Below.refl _ _⟩
end Go.Proofs.Ytonmdkhfongmhaa
