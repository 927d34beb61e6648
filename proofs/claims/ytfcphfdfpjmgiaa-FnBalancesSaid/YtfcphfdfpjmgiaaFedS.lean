/- The cells that are fed: the reference's walk. -/
import Derived.Test.YtfcphfdfpjmgiaaFedI
namespace Go.Proofs.Ytfcphfdfpjmgiaa
open Go.RowKit

theorem sub_le {x y : Nat} (h : Sub x y) : x ≤ y := by
  have e : x &&& y = x := by
    apply Nat.eq_of_testBit_eq
    intro i
    rw [Nat.testBit_and]
    cases e : x.testBit i
    · rfl
    · rw [h i e]; rfl
  rw [← e]; exact Nat.and_le_right
theorem frd_next {m : M} {x i : Nat} (h : (frd m (cellsTo m.wide m.high i) x).testBit i = false) : frd m (cellsTo m.wide m.high (i + 1)) x = frd m (cellsTo m.wide m.high i) x := by
  cases hh : hasB m.wide m.high i
  · rw [cellsTo_no hh]
  · rw [cellsTo_yes hh, frd_snoc, fsd_no h]
def bOf : Value → Bool
  | .bool b => b
  | _ => false
def FedS1 (m : M) (f0 : Nat) (w : World) (v3 v4 : Value) (wr : World) : Prop :=
  ∃ (j x : Nat) (a : Bool), v3 = .int .u64 x ∧ x = fed m f0 j ∧ v4 = .bool a ∧ (a = false → ∃ i, fed m f0 j = fed m f0 i ∧ fed m f0 (i + 1) = fed m f0 i) ∧ Below w.heap.size w wr
def FedS2 (x n : Nat) (f : Nat → Nat) (w : World) (v3 v4 v5 : Value) (wr : World) : Prop :=
  ∃ (i y : Nat) (d : Bool), i ≤ n ∧ v5 = .int .i64 i ∧ v3 = .int .u64 y ∧ y = f i ∧ v4 = .bool d ∧ d = decide (y ≠ x) ∧ Below w.heap.size w wr
set_option maxRecDepth 100000 in
set_option maxHeartbeats 1600000 in
theorem l01Fed_any (B : Nat) (g : G) (w : World) (hd : Drawn g) (hG : GAt w B 0 g) :
    Calls Try.prog 99 #[.pointer (some ⟨B, 0, none⟩)] w (RetI .u64 (fedW g.m : Nat) w) := by
  have hs := hd.sane
  have hr := hs.rng
  have hsz := sized_of hd.ok
  obtain ⟨f0, hf0⟩ : ∃ f0 : Nat, g.fixed = f0 := ⟨g.fixed.toNat, by have := hs.f0; omega⟩
  have hin : InC g.m f0 := by have := hd.fixIn; rw [hf0, Int.toNat_natCast] at this; exact this
  have hne : f0 ≠ 0 := by have := hd.fix0; rw [hf0, Int.toNat_natCast] at this; exact this
  have HW : Hid (fedW g.m = fed g.m f0 64) := by show fed g.m g.fixed.toNat 64 = _; rw [hf0, Int.toNat_natCast]
  have HAT : Hid (∀ j, fed g.m f0 (j + 1) = fed g.m f0 j → fed g.m f0 j = fed g.m f0 64) := fun j h => fed_at hsz hin hne h
  have HIN := Lib.hid hin
  have HSZ := Lib.hid hsz
  have HG := Lib.hid hG
  have l0 := hG.fixed
  rw [hf0] at l0
  clear hf0 hin hsz hd hne hG
  go_enter Try.func99, Try.ntmps99
  go_wp2_with fail
  go_loopw [3, 4] (fun v3 v4 wr => FedS1 g.m f0 w v3 v4 wr) (fun v3 v4 _ => if bOf v4 then 1 + (2 ^ 64 - (intOf v3).toNat) else 0)
  case atStart => exact ⟨0, f0, true, rfl, rfl, rfl, fun h => (by cases h), Below.refl _ _⟩
  case round =>
    obtain ⟨j, x, a, rfl, hx0, rfl, ha, hB⟩ := hrel
    have hx : fed g.m f0 j = x := hx0.symm
    clear hx0
    have HBr := Lib.hid hB
    have HG3 := Lib.hid (HG.out.below hB)
    clear hB l0
    cases a
    · have HE : Hid (fed g.m f0 j = fedW g.m) := by
        obtain ⟨i, h1, h2⟩ := ha rfl
        show _ = _
        rw [h1, HW.out]; exact HAT.out i h2
      clear ha
      go_wp2_with fail
      go_ret
      exact ⟨by rw [← HE.out, hx]; rfl, HBr.out⟩
    · clear ha
      have hxin : InC g.m x := by rw [← hx]; exact fed_in HSZ.out HIN.out j
      have HX := Lib.hid hx
      have HXI := Lib.hid hxin
      clear hx hxin
      go_wp2_with fail
      go_loopw [3, 4, 5] (fun v3 v4 v5 wr => FedS2 x 64 (fun i => frd g.m (cellsTo g.wide g.high i) x) w v3 v4 v5 wr) (fun _ _ v5 _ => 64 - (intOf v5).toNat)
      case atStart => exact ⟨0, x, false, by omega, rfl, rfl, rfl, rfl, by simp, HBr.out⟩
      case round =>
        obtain ⟨i, y, d, hi, rfl, rfl, hy0, rfl, hd0, hB⟩ := hrel
        have hy : frd g.m (cellsTo g.wide g.high i) x = y := hy0.symm
        have HD := Lib.hid hd0
        clear hy0 hd0
        have HBs := Lib.hid hB
        have HG5 := Lib.hid (HG.out.below hB)
        clear hB
        have hyin : InC g.m y := by rw [← hy]; exact inC_frd HSZ.out HXI.out _
        have HYS : Hid (Sub x y) := by rw [← hy]; exact frd_sub _ _ _
        by_cases hil : i < 64
        · have i1 : (i : Int) < 64 := by omega
          have hy64 := inC_lt hyin
          cases hyb : y.testBit i
          · have hbit : (((y : Int) / 2 ^ i).tmod 2 == 0) = true := by rw [bit_mod0, hyb]; rfl
            have HN : Hid (frd g.m (cellsTo g.wide g.high (i + 1)) x = y) := by
              have h2 := hyb
              rw [← hy] at h2
              have h3 := frd_next (m := g.m) h2
              exact h3.trans hy
            clear hyb hy hyin hy64
            go_wp2_with fail
            go_roundw
            case rel => exact ⟨i + 1, y, d, by omega, by go_num, rfl, HN.out.symm, rfl, HD.out, HBs.out⟩
            case measure => simp [intOf]; omega
          · have hbit : (((y : Int) / 2 ^ i).tmod 2 == 0) = false := by rw [bit_mod0, hyb]; rfl
            have hcell := hyin i hyb
            have HN : Hid (frd g.m (cellsTo g.wide g.high (i + 1)) x = fsd g.m i y 4) := by
              show _ = _
              rw [cellsTo_yes (W := g.wide) (H := g.high) hcell.2, frd_snoc]
              show fsd g.m i (frd g.m (cellsTo g.wide g.high i) x) 4 = _
              rw [hy]
            have HYI := Lib.hid hyin
            have HYB := Lib.hid hyb
            clear hyb hy hyin hy64 hcell
            go_wp2_with fail
            go_loopw [3, 4, 6] (fun v3 v4 v6 wr => FedS2 x 4 (fun s => fsd g.m i y s) w v3 v4 v6 wr) (fun _ _ v6 _ => 4 - (intOf v6).toNat)
            case atStart => exact ⟨0, y, d, by omega, rfl, rfl, rfl, rfl, HD.out, HBs.out⟩
            case round =>
              obtain ⟨s, z, d2, hs4, rfl, rfl, hz0, rfl, hd0, hB⟩ := hrel
              have hz : fsd g.m i y s = z := hz0.symm
              have HD2 := Lib.hid hd0
              clear hz0 hd0
              have HBt := Lib.hid hB
              have HG6 := Lib.hid (HG.out.below hB)
              clear hB hbit
              have HZ := Lib.hid hz
              have hzin : InC g.m z := by rw [← hz]; exact inC_fsd HSZ.out HYI.out _ _
              have HZS : Hid (Sub y z) := by rw [← hz]; exact fsd_sub _ _ _ _
              have hz64 := inC_lt hzin
              clear hz hzin
              by_cases hsl : s < 4
              · have s1 : (s : Int) < 4 := by omega
                by_cases hb : beside g.wide g.high i s < 0
                · have hbl := beside_lt g.wide g.high i s hil hs.hW hs.hH
                  have hn : beside g.wide g.high i s = -1 := by omega
                  have HN2 := Lib.hid hn
                  have HST : Hid (fsd g.m i y (s + 1) = z) := by show _ = _; rw [fsd_stay (.inr (edge_none hb)), HZ.out]
                  clear hbl hb hn
                  go_wp2_with fail
                  refine (l01Between_any B 0 i s g _ hil hsl hr hs.hW hs.hH HG6.out).mono ?_
                  rw [HN2.out]
                  rintro e w1 ⟨rj, rfl, hrj, hb1⟩
                  have HBu := Lib.hid (below_next HBt.out hb1)
                  clear hb1 hrj
                  go_wp2_with fail
                  go_roundw
                  case rel => exact ⟨s + 1, z, d2, by omega, by go_num, rfl, HST.out.symm, rfl, HD2.out, HBu.out⟩
                  case measure => simp [intOf]; omega
                · obtain ⟨n, hn⟩ : ∃ n : Nat, beside g.wide g.high i s = n := ⟨(beside g.wide g.high i s).toNat, by omega⟩
                  have hnl : n < 64 := by have := beside_lt g.wide g.high i s hil hs.hW hs.hH; omega
                  have n1 : (n : Int) < 64 := by omega
                  have n0 : (0 : Int) ≤ (n : Int) := by omega
                  have hgt := order_gt
                  have HZL := Lib.hid hz64
                  have HN2 := Lib.hid hn
                  have HE : Hid (edge g.m i s = fgt (between g.m i s) (some 0)) := by
                    show _ = _
                    rw [edge_some hn]
                    unfold between
                    rw [show beside g.m.wide g.m.high i s = (n : Int) from hn, if_neg (by omega), Int.toNat_natCast]
                  clear hb hn hz64
                  cases hed : edge g.m i s
                  · have HED := Lib.hid hed
                    have HST : Hid (fsd g.m i y (s + 1) = z) := by show _ = _; rw [fsd_stay (.inr hed), HZ.out]
                    have HJ : Hid (∀ r, Is r (between g.m i s) → fgt (fb r) (fb 0) = false) := fun r h => by rw [h.out, fb0, ← HE.out]; exact hed
                    clear hed
                    go_wp2_with fail
                    refine (l01Between_any B 0 i s g _ hil hsl hr hs.hW hs.hH HG6.out).mono ?_
                    rw [HN2.out]
                    rintro e w1 ⟨rj, rfl, hrj, hb1⟩
                    have HBu := Lib.hid (below_next HBt.out hb1)
                    have hj1 := HJ.out rj hrj
                    clear hb1 hrj
                    go_wp2_with fail
                    go_roundw
                    case rel => exact ⟨s + 1, z, d2, by omega, by go_num, rfl, HST.out.symm, rfl, HD2.out, HBu.out⟩
                    case measure => simp [intOf]; omega
                  · have HED := Lib.hid hed
                    have HST0 : Hid (fsd g.m i y (s + 1) = z ||| 2 ^ n) := by show _ = _; rw [fsd_more (by rw [HZ.out]; exact HZS.out _ HYB.out) hed HN2.out, HZ.out]
                    have HJ : Hid (∀ r, Is r (between g.m i s) → fgt (fb r) (fb 0) = true) := fun r h => by rw [h.out, fb0, ← HE.out]; exact hed
                    clear hed
                    cases hzb : z.testBit n
                    · have hbn : (((z : Int) / 2 ^ n).tmod 2 == 0) = true := by rw [bit_mod0, hzb]; rfl
                      have HA : Hid (decide (z ||| 2 ^ n ≠ x) = true) := by
                        refine decide_eq_true ?_
                        intro e
                        have h1 : x.testBit n = true := by rw [← e, or_bit]; simp
                        have h2 := HZS.out n (HYS.out n h1)
                        rw [hzb] at h2; cases h2
                      clear hzb
                      go_wp2_with fail
                      refine (l01Between_any B 0 i s g _ hil hsl hr hs.hW hs.hH HG6.out).mono ?_
                      rw [HN2.out]
                      rintro e w1 ⟨rj, rfl, hrj, hb1⟩
                      have HBu := Lib.hid (below_next HBt.out hb1)
                      have hj1 := HJ.out rj hrj
                      clear hb1 hrj
                      go_wp2_with fail
                      go_roundw
                      case rel => exact ⟨s + 1, z ||| 2 ^ n, true, by omega, by go_num, by rw [← or_word HZL.out hnl]; rfl, HST0.out.symm, rfl, HA.out.symm, HBu.out⟩
                      case measure => simp [intOf]; omega
                    · have hbn : (((z : Int) / 2 ^ n).tmod 2 == 0) = false := by rw [bit_mod0, hzb]; rfl
                      have HST : Hid (fsd g.m i y (s + 1) = z) := by show _ = _; rw [HST0.out, or_same hzb]
                      clear hzb
                      go_wp2_with fail
                      refine (l01Between_any B 0 i s g _ hil hsl hr hs.hW hs.hH HG6.out).mono ?_
                      rw [HN2.out]
                      rintro e w1 ⟨rj, rfl, hrj, hb1⟩
                      have HBu := Lib.hid (below_next HBt.out hb1)
                      have hj1 := HJ.out rj hrj
                      clear hb1 hrj
                      go_wp2_with fail
                      go_roundw
                      case rel => exact ⟨s + 1, z, d2, by omega, by go_num, rfl, HST.out.symm, rfl, HD2.out, HBu.out⟩
                      case measure => simp [intOf]; omega
              · have s1 : ¬ (s : Int) < 4 := by omega
                obtain rfl : s = 4 := by omega
                have HN3 : Hid (frd g.m (cellsTo g.wide g.high (i + 1)) x = z) := by show _ = _; rw [HN.out, HZ.out]
                clear hz64
                go_wp2_with fail
                go_roundw
                case rel => exact ⟨i + 1, z, d2, by omega, by go_num, rfl, HN3.out.symm, rfl, HD2.out, HBt.out⟩
                case measure => simp [intOf]; omega
        · have i1 : ¬ (i : Int) < 64 := by omega
          obtain rfl : i = 64 := by omega
          have HYE : Hid (fed g.m f0 (j + 1) = y) := by
            show frd g.m (cellsM g.m) (fed g.m f0 j) = y
            rw [HX.out]; exact hy
          have hy64 := inC_lt hyin
          have HYL := Lib.hid hy64
          clear hy hyin hy64
          go_wp2_with fail
          go_roundw
          case rel =>
            refine ⟨j + 1, y, d, rfl, HYE.out.symm, rfl, fun h => ⟨j, ?_, ?_⟩, HBs.out⟩
            · have := of_decide_eq_false (HD.out.symm.trans h)
              rw [HYE.out, HX.out]; omega
            · have := of_decide_eq_false (HD.out.symm.trans h)
              rw [HYE.out, HX.out]; omega
          case measure =>
            have h1 := sub_le HYS.out
            have h2 := HYL.out
            show (if d = true then 1 + (2 ^ 64 - ((y : Int)).toNat) else 0) < 1 + (2 ^ 64 - ((x : Int)).toNat)
            rw [Int.toNat_natCast, Int.toNat_natCast]
            by_cases e : y = x
            · have hd : d = false := by rw [HD.out, e]; simp
              rw [hd]
              show (0 : Nat) < _
              omega
            · have hd : d = true := by rw [HD.out]; simpa using e
              rw [hd]
              show 1 + (2 ^ 64 - y) < _
              have : x < y := by omega
              omega
set_option maxRecDepth 100000 in
set_option maxHeartbeats 800000 in
theorem specFedCells_any (g : G) (w : World) (hd : Drawn g) :
    Calls Try.prog 16 #[.agg (arrG g)] w fun e w' => e = .returned (.tuple #[.int .u64 (fedW g.m : Nat), .int .i64 0]) ∧ Below w.heap.size w w' := by
  have hs := hd.sane
  have hr := hs.rng
  have HO := Lib.hid hd.ok
  have HD := Lib.hid hd
  clear hd
  go_enter Try.func16, Try.ntmps16
  go_wp2_with (with_reducible refine wpList_box rfl ?_)
  intro B wB hB1 hB2 hB3 hB4
  have HBB := Lib.hid hB4
  have HG := Lib.hid (GAt.of_blk hB3)
  clear hB3 hB4
  go_wp2_with fail
  refine (l01Ok_any B 0 g _ hr HG.out).mono ?_
  rw [HO.out]
  rintro e w2 ⟨rfl, hb2⟩
  have HB2 := Lib.hid (below_next HBB.out hb2)
  have HG2 := Lib.hid (HG.out.below hb2)
  clear hb2
  go_wp2_with fail
  refine (l01Fed_any B g w2 HD.out HG2.out).mono ?_
  rintro e w3 ⟨rfl, hb3⟩
  have HB3 := Lib.hid (below_next HB2.out hb3)
  clear hb3
  go_wp2_with fail
  go_ret2
  exact ⟨rfl, HB3.out⟩
end Go.Proofs.Ytfcphfdfpjmgiaa
