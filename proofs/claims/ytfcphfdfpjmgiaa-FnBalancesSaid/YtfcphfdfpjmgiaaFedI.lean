/- The cells that are fed: both sides' walks. -/
import Derived.Test.YtfcphfdfpjmgiaaBalX
namespace Go.Proofs.Ytfcphfdfpjmgiaa
open Go.RowKit

theorem inC_step {m : M} (h : sized m) : ∀ k s, (k < 64 ∧ hasB m.wide m.high k = true) → edge m k s = true → ((beside m.wide m.high k s).toNat < 64 ∧ hasB m.wide m.high (beside m.wide m.high k s).toNat = true) := fun _ _ hk he => edge_cell h hk.1 he
theorem inC_frd {m : M} (h : sized m) {x : Nat} (hx : InC m x) (l : List Nat) : InC m (frd m l x) := frd_keep (P := fun j => j < 64 ∧ hasB m.wide m.high j = true) (inC_step h) l hx
theorem inC_fsd {m : M} (h : sized m) {x : Nat} (hx : InC m x) (k s : Nat) : InC m (fsd m k x s) := fsd_keep (P := fun j => j < 64 ∧ hasB m.wide m.high j = true) (inC_step h) hx s
theorem fsd_stay {m : M} {k x s : Nat} (h : (fsd m k x s).testBit k = false ∨ edge m k s = false) : fsd m k x (s + 1) = fsd m k x s := by
  show fst1 m k s _ = _
  unfold fst1
  rcases h with h | h <;> rw [h]
  · rw [Bool.false_and]; rfl
  · rw [Bool.and_false]; rfl
theorem fsd_more {m : M} {k x s n : Nat} (h : (fsd m k x s).testBit k = true) (he : edge m k s = true) (hn : beside m.wide m.high k s = n) : fsd m k x (s + 1) = fsd m k x s ||| 2 ^ n := by
  show fst1 m k s _ = _
  unfold fst1
  rw [h, he, hn, Int.toNat_natCast]; rfl
theorem frd_take {m : M} {x i c : Nat} {l : List Nat} (hc : l[i]? = some c) : frd m (l.take (i + 1)) x = fsd m c (frd m (l.take i) x) 4 := by
  rw [take_more hc, frd_snoc]
def FedR (n : Nat) (f : Nat → Nat) (w wL : World) (v4 v14 : Value) (wr : World) : Prop :=
  ∃ j x : Nat, j ≤ n ∧ v14 = .int .i64 j ∧ v4 = .int .u64 x ∧ x = f j ∧ Below w.heap.size w wr ∧ Below wL.heap.size wL wr
set_option maxRecDepth 100000 in
set_option maxHeartbeats 1600000 in
theorem FedCells_any (g : G) (w : World) (hd : Drawn g) :
    Calls Try.prog 78 #[.agg (arrG g)] w fun e w' => e = .returned (.tuple #[.int .u64 (fedW g.m : Nat), .int .i64 0]) ∧ Below w.heap.size w w' := by
  have hs := hd.sane
  have hr := hs.rng
  have hsz := sized_of hd.ok
  have HO := Lib.hid hd.ok
  obtain ⟨f0, hf0⟩ : ∃ f0 : Nat, g.fixed = f0 := ⟨g.fixed.toNat, by have := hs.f0; omega⟩
  have hin : InC g.m f0 := by have := hd.fixIn; rw [hf0, Int.toNat_natCast] at this; exact this
  have HW : Hid (fedW g.m = fed g.m f0 64) := by show fed g.m g.fixed.toNat 64 = _; rw [hf0, Int.toNat_natCast]
  have HF0 := Lib.hid hf0
  have HIN := Lib.hid hin
  have HSZ := Lib.hid hsz
  clear hf0 hin hsz hd
  go_enter Try.func78, Try.ntmps78
  go_wp2_with (with_reducible refine wpList_box rfl ?_)
  intro B wB hB1 hB2 hB3 hB4
  have HBB := Lib.hid hB4
  have HG := Lib.hid hB3
  have g1 := hB3
  clear hB3 hB4
  go_wp2_with ((with_reducible refine wpList_getG g1 ?_ ?_); rfl)
  refine (ValidGround_any g _ hr).mono ?_
  rw [HO.out]
  rintro e w2 ⟨rfl, hb2⟩
  have HB2 := Lib.hid (below_next HBB.out hb2)
  have HG2 := Lib.hid (GAt.of_blk (HG.out.later hb2))
  have l0 := HG2.out.fixed
  rw [HF0.out] at l0
  clear hb2 g1
  go_wp2_with fail
  go_loopw [4, 14] (fun v4 v14 wr => FedR 64 (fun j => fed g.m f0 j) w w2 v4 v14 wr) (fun _ v14 _ => 64 - (intOf v14).toNat)
  case atStart => exact ⟨0, f0, by omega, rfl, rfl, rfl, HB2.out, Below.refl _ _⟩
  case round =>
    obtain ⟨j, x, hj, rfl, rfl, hx0, hB, hBL⟩ := hrel
    have hx : fed g.m f0 j = x := hx0.symm
    have HBr := Lib.hid hB
    have HBL := Lib.hid hBL
    clear hx0
    have HG3 := Lib.hid (HG2.out.below hBL)
    clear hB hBL l0
    by_cases hlt : j < 64
    · have j1 : (j : Int) < 64 := by omega
      have hxin : InC g.m x := by rw [← hx]; exact fed_in HSZ.out HIN.out j
      have HX := Lib.hid hx
      have HXI := Lib.hid hxin
      clear hx hxin
      go_wp2_with fail
      refine (cells_any B 0 g _ hr HG3.out).mono ?_
      rintro e w3 ⟨v, rfl, hown, hb3⟩
      obtain ⟨aL, cap, rfl, hL⟩ := list_form hown
      have HL := Lib.hid hL
      have HB3 := Lib.hid (below_next HBr.out hb3)
      have HBL3 := Lib.hid (below_next HBL.out hb3)
      have HG4 := Lib.hid (HG3.out.below hb3)
      clear hL hown hb3
      go_wp2_with fail
      go_loopw [4, 18] (fun v4 v18 wr => FedR (cellsM g.m).length (fun i => frd g.m ((cellsM g.m).take i) x) w w3 v4 v18 wr) (fun _ v18 _ => (cellsM g.m).length - (intOf v18).toNat)
      case atStart => exact ⟨0, x, by omega, rfl, rfl, rfl, HB3.out, Below.refl _ _⟩
      case round =>
        obtain ⟨i, y, hi, rfl, rfl, hy0, hB, hBM⟩ := hrel
        have hy : frd g.m ((cellsM g.m).take i) x = y := hy0.symm
        clear hy0
        have HBs := Lib.hid hB
        have HBM := Lib.hid hBM
        have HG5 := Lib.hid (HG4.out.below hBM)
        clear hB
        by_cases hil : i < (cellsM g.m).length
        · obtain ⟨c, hc⟩ : ∃ c, (cellsM g.m)[i]? = some c := ⟨_, List.getElem?_eq_getElem hil⟩
          have hc64 : c < 64 := cellsTo_lt (List.mem_of_getElem? hc)
          have hi64 : i < 64 := Nat.lt_of_lt_of_le hil (cellsTo_length _ _ _)
          have c1 : (c : Int) < 64 := by omega
          obtain ⟨gq, rfl, hq1, hq2, hq3⟩ := HL.out i c hc
          have q1 := cell_below hBM hq3
          have hlt' : (i : Int) < ((cellsTo g.wide g.high 64).length : Int) := by have : i < (cellsTo g.wide g.high 64).length := hil; omega
          have HC := Lib.hid (frd_take (m := g.m) (x := x) hc)
          rw [hy] at HC
          have hyin : InC g.m y := by rw [← hy]; exact inC_frd HSZ.out HXI.out _
          have HYI := Lib.hid hyin
          clear hc hq1 hq2 hq3 hBM hy hyin
          go_wp2_with fail
          go_loopw [4, 22] (fun v4 v22 wr => FedR 4 (fun s => fsd g.m c y s) w w3 v4 v22 wr) (fun _ v22 _ => 4 - (intOf v22).toNat)
          case atStart => exact ⟨0, y, by omega, rfl, rfl, rfl, HBs.out, HBM.out⟩
          case round =>
            obtain ⟨s, z, hs4, rfl, rfl, hz0, hB, hBM⟩ := hrel
            have hz : fsd g.m c y s = z := hz0.symm
            clear hz0
            have HBt := Lib.hid hB
            have HBMt := Lib.hid hBM
            have HG6 := Lib.hid (HG4.out.below hBM)
            clear hB hBM q1
            by_cases hsl : s < 4
            · have s1 : (s : Int) < 4 := by omega
              have hzin : InC g.m z := by rw [← hz]; exact inC_fsd HSZ.out HYI.out _ _
              have hz64 := inC_lt hzin
              have hbit := bit_and z c hz64
              obtain ⟨zr0, zr1⟩ := shr_range (x := (z : Int)) c (by omega) (by have : z < 18446744073709551616 := hz64; omega)
              have HZ := Lib.hid hz
              have HZL := Lib.hid hz64
              clear hz hzin hz64
              by_cases hb : beside g.wide g.high c s < 0
              · have hbl := beside_lt g.wide g.high c s hc64 hs.hW hs.hH
                have hn : beside g.wide g.high c s = -1 := by omega
                have HN := Lib.hid hn
                have HST : Hid (fsd g.m c y (s + 1) = z) := by show _ = _; rw [fsd_stay (.inr (edge_none hb)), HZ.out]
                clear hbl hb hn
                cases hzb : z.testBit c
                all_goals
                  rw [hzb] at hbit
                  go_wp2_with (go_at_call 164; refine (beside_any B 0 c s g _ hc64 hsl hr HG6.out).mono ?_; rw [HN.out]; rintro e w' ⟨rfl, rfl⟩)
                  refine wp_soft (SV (.bool true)) (by kernel_rfl) (by kernel_rfl) ?_
                  repeat (first | (refine soft_step (fun K hK => ?_); go_simp; (try go_bits); refine hK _ ?_; clear hK K))
                  refine soft_nil ?_
                  rintro wd hw
                  have hb := hw.below
                  have HBu := Lib.hid (below_next HBt.out hb)
                  have HBMu := Lib.hid (below_next HBMt.out hb)
                  clear hb hw
                  go_wp2_with fail
                  go_roundw
                  case rel => exact ⟨s + 1, z, by omega, by go_num, rfl, HST.out.symm, HBu.out, HBMu.out⟩
                  case measure => simp [intOf]; omega
              · obtain ⟨n, hn⟩ : ∃ n : Nat, beside g.wide g.high c s = n := ⟨(beside g.wide g.high c s).toNat, by omega⟩
                have hnl : n < 64 := by have := beside_lt g.wide g.high c s hc64 hs.hW hs.hH; omega
                have n1 : (n : Int) < 64 := by omega
                have n0 : ¬ (n : Int) < 0 := by omega
                have HN := Lib.hid hn
                have HE : Hid (edge g.m c s = fgt (joint (fb (g.c c)) (fb (g.c n))) (some 0)) := by show _ = _; rw [edge_some hn]; show fgt (joint (fm g.c c) (fm g.c n)) _ = _; rw [fm_of hc64, fm_of hnl]
                clear hb hn
                have q2 := fun x => ext_cell wr x (HG6.out.c hc64)
                have q2n := fun x => ext_cell wr x (HG6.out.c hnl)
                cases hzb : z.testBit c
                · rw [hzb] at hbit
                  have HST : Hid (fsd g.m c y (s + 1) = z) := by show _ = _; rw [fsd_stay (.inl (by rw [HZ.out]; exact hzb)), HZ.out]
                  clear hzb
                  go_wp2_with (go_at_call 164; refine (beside_any B 0 c s g _ hc64 hsl hr HG6.out).mono ?_; rw [HN.out]; rintro e w' ⟨rfl, rfl⟩)
                  refine wp_soft (SV (.bool true)) (by kernel_rfl) (by kernel_rfl) ?_
                  repeat (first | (refine soft_step (fun K hK => ?_); go_simp; (try go_bits); refine hK _ ?_; clear hK K))
                  refine soft_nil ?_
                  rintro wd hw
                  have hb := hw.below
                  have HBu := Lib.hid (below_next HBt.out hb)
                  have HBMu := Lib.hid (below_next HBMt.out hb)
                  clear hb hw
                  go_wp2_with fail
                  go_roundw
                  case rel => exact ⟨s + 1, z, by omega, by go_num, rfl, HST.out.symm, HBu.out, HBMu.out⟩
                  case measure => simp [intOf]; omega
                · rw [hzb] at hbit
                  have HZB := Lib.hid hzb
                  clear hzb
                  cases hed : edge g.m c s
                  all_goals
                    have HED := Lib.hid hed
                    have HJ : Hid (∀ r, Is r (joint (fb (g.c c)) (fb (g.c n))) → fgt (fb r) (fb 0) = edge g.m c s) := fun r h => by rw [h.out, fb0, HE.out]
                    rw [hed] at HJ
                    clear hed
                    go_wp2_with (go_at_call 164; refine (beside_any B 0 c s g _ hc64 hsl hr HG6.out).mono ?_; rw [HN.out]; rintro e w' ⟨rfl, rfl⟩)
                    refine wp_soft (SF (joint (fb (g.c c)) (fb (g.c n)))) (by kernel_rfl) (by kernel_rfl) ?_
                    repeat (first | (refine soft_step (fun K hK => ?_); go_simp; (try go_bits); refine hK _ ?_; clear hK K) | (refine soft_step (fun K hK => ?_); go_simp; refine ⟨_, _, ⟨rfl, rfl⟩, fun x => (JointOf_any _ _ _).mono ?_, ?_⟩; (rintro e w1 ⟨r, he, hr, hb⟩; exact ⟨_, he, ⟨r, rfl, hr⟩, hb⟩); rintro v ⟨rJ, rfl, hJ⟩; have hj1 := HJ.out rJ hJ; have hgt := order_gt; refine hK _ ?_; clear hK K))
                    refine soft_nil ?_
                    rintro wd hw
                    have hb := hw.below
                    have HBu := Lib.hid (below_next HBt.out hb)
                    have HBMu := Lib.hid (below_next HBMt.out hb)
                    clear hb hw q2 q2n
                    go_wp2_with fail
                    go_roundw
                    case rel =>
                      first
                        | exact ⟨s + 1, z, by omega, by go_num, rfl, ((fsd_stay (.inr HED.out)).trans HZ.out).symm, HBu.out, HBMu.out⟩
                        | exact ⟨s + 1, z ||| 2 ^ n, by omega, by go_num, by rw [← or_word HZL.out hnl]; rfl, by rw [← HZ.out]; exact (fsd_more (by rw [HZ.out]; exact HZB.out) HED.out HN.out).symm, HBu.out, HBMu.out⟩
                    case measure => simp [intOf]; omega
            · have s1 : ¬ (s : Int) < 4 := by omega
              obtain rfl : s = 4 := by omega
              go_wp2_with fail
              go_roundw
              case rel => exact ⟨i + 1, z, by omega, by go_num, rfl, (HC.out.trans hz).symm, HBt.out, HBMt.out⟩
              case measure => simp [intOf]; omega
        · have hin' : i = (cellsM g.m).length := by omega
          have hlt' : ¬ (i : Int) < ((cellsTo g.wide g.high 64).length : Int) := by have : ¬ i < (cellsTo g.wide g.high 64).length := hil; omega
          have HI : Hid (y = fed g.m f0 (j + 1)) := by show y = frd g.m (cellsM g.m) (fed g.m f0 j); rw [HX.out, ← hy, hin', List.take_length]
          have HBLs := Lib.hid (below_next HBL3.out hBM)
          clear hin' hBM hy
          go_wp2_with fail
          go_roundw
          case rel => exact ⟨j + 1, y, by omega, by go_num, rfl, HI.out, HBs.out, HBLs.out⟩
          case measure => simp [intOf]; omega
    · have j1 : ¬ (j : Int) < 64 := by omega
      obtain rfl : j = 64 := by omega
      go_wp2_with fail
      go_ret2
      exact ⟨by rw [HW.out, hx]; rfl, HBr.out⟩
end Go.Proofs.Ytfcphfdfpjmgiaa
