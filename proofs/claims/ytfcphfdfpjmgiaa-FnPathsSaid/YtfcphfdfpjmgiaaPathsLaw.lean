/- The law on paths of the water and basins: its walk. -/
import Derived.Test.YtfcphfdfpjmgiaaPthM
import Derived.Test.YtfcphfdfpjmgiaaLM2
namespace Go.Proofs.Ytfcphfdfpjmgiaa
open Go.RowKit

def SameRel (n : Nat) (w : World) (v : Value) (wr : World) : Prop := ∃ j : Nat, j ≤ n ∧ v = .int .i64 j ∧ Below w.heap.size w wr
set_option maxRecDepth 100000 in
set_option maxHeartbeats 800000 in
theorem l00Same_any (v v' : Value) (l : List Nat) (w : World) (hlen : l.length ≤ 64) (hv : ListAt w v l) (hv' : ListAt w v' l) :
    Calls Try.prog 146 #[v, v'] w (RetB true w) := by
  obtain ⟨aL, cap, rfl, hL⟩ := hv
  obtain ⟨aL', cap', rfl, hL'⟩ := hv'
  have HL := Lib.hid hL
  have HL' := Lib.hid hL'
  clear hL hL'
  go_enter Try.func146, Try.ntmps146
  go_wp2_with fail
  go_loopw [5] (fun v5 wr => SameRel l.length w v5 wr) (fun v5 _ => l.length - (intOf v5).toNat)
  case atStart => exact ⟨0, by omega, rfl, Below.refl _ _⟩
  case round =>
    obtain ⟨j, hj, rfl, hB⟩ := hrel
    have HB := Lib.hid hB
    clear hB
    by_cases hlt : j < l.length
    · obtain ⟨c, hc⟩ : ∃ c, l[j]? = some c := ⟨_, List.getElem?_eq_getElem hlt⟩
      obtain ⟨gq, rfl, hq⟩ := HL.out j c hc
      obtain ⟨gq', rfl, hq'⟩ := HL'.out j c hc
      have h1 := cell_below HB.out hq
      have h2 := cell_below HB.out hq'
      have j1 : (j : Int) < (l.length : Int) := by omega
      have hj64 : j < 64 := by omega
      clear hq hq' hc
      go_wp2_with fail
      go_quiet (fail)
      go_wp2_with fail
      go_roundw
      case rel => exact ⟨j + 1, by omega, by go_num, below_drawn HB.out _⟩
      case measure => simp [intOf]; omega
    · have j1 : ¬ (j : Int) < (l.length : Int) := by omega
      go_wp2_with fail
      go_ret
      exact ⟨rfl, HB.out⟩
set_option maxRecDepth 100000 in
set_option maxHeartbeats 800000 in
theorem A2Same_any (v v' : Value) (l : List Nat) (w : World) (hlen : l.length ≤ 64) (hv : ListAt w v l) (hv' : ListAt w v' l) :
    Calls Try.prog 50 #[v, v'] w (RetB true w) := by
  obtain ⟨aL, cap, rfl, hL⟩ := hv
  obtain ⟨aL', cap', rfl, hL'⟩ := hv'
  have HV : Hid (ListAt w (.slice aL l.length cap) l) := ⟨_, _, rfl, hL⟩
  have HV' : Hid (ListAt w (.slice aL' l.length cap') l) := ⟨_, _, rfl, hL'⟩
  clear hL hL'
  go_enter Try.func50, Try.ntmps50
  go_wp2_with fail
  refine (l00Same_any _ _ l w hlen HV.out HV'.out).mono ?_
  rintro e w1 ⟨rfl, hb1⟩
  have HB1 := Lib.hid hb1
  clear hb1
  go_wp2_with fail
  go_ret
  exact ⟨rfl, HB1.out⟩
theorem ListAt.far {w w' : World} {v : Value} {l : List Nat} (h : ListAt w v l) (hb : Below w.heap.size w w') : ListAt w' v l := by
  obtain ⟨a, cap, e, hL⟩ := h
  refine ⟨a, cap, e, fun j c hc => ?_⟩
  obtain ⟨gq, e2, hq⟩ := hL j c hc
  exact ⟨gq, e2, cell_below hb hq⟩

def CtrRel (lo hi : Nat) (w wL : World) (v : Value) (wr : World) : Prop := ∃ j : Nat, lo ≤ j ∧ j ≤ hi ∧ v = .int .i64 j ∧ Below w.heap.size w wr ∧ Below wL.heap.size wL wr
def BasRel2 (m : M) (w wL : World) (v16 v17 : Value) (wr : World) : Prop := ∃ j : Nat, j ≤ 64 ∧ v17 = .int .i64 j ∧ v16 = .int .u64 (bitsL (doneL m j)) ∧ Below w.heap.size w wr ∧ Below wL.heap.size wL wr
theorem below_to {w wr w' : World} (h : Below w.heap.size w wr) (h2 : Below wr.heap.size wr w') : Below w.heap.size w w' := h.trans (h2.mono h.size)

set_option maxRecDepth 100000 in
set_option maxHeartbeats 16000000 in
theorem law_Paths (v v' : Value) (n n' : Nat) (w : World) (hn0 : n < 9223372036854775808) (hn0' : n' < 9223372036854775808) (hv : BytesAt w v n) (hv' : BytesAt w v' n') :
    Calls Try.prog 6 #[v, v'] w (RetB true w) := by
  have s1 : ∃ a cap, v = .slice a n cap := by obtain ⟨a, cap, e, _⟩ := hv; exact ⟨a, cap, e⟩
  have s2 : ∃ a cap, v' = .slice a n' cap := by obtain ⟨a, cap, e, _⟩ := hv'; exact ⟨a, cap, e⟩
  have HV := Lib.hid hv
  have HV' := Lib.hid hv'
  have HS1 := Lib.hid s1
  have HS2 := Lib.hid s2
  clear hv hv' s1 s2
  by_cases hlong : 3000 < n ∨ 3000 < n'
  · have hl : Hid ((decide (3000 < n) || decide (3000 < n')) = true) := by
      show _ = true
      rcases hlong with h | h
      · rw [decide_eq_true h]; rfl
      · rw [decide_eq_true h, Bool.or_true]
    clear hlong
    go_enter Try.func6, Try.ntmps6
    go_wp2_with fail
    refine (a2Long_any v v' n n' w HS1.out HS2.out hn0 hn0').mono ?_
    rw [hl.out]
    rintro e w1 ⟨rfl, rfl⟩
    go_wp2_with fail
    go_ret
    exact ⟨rfl, Below.refl _ _⟩
  have hl : Hid ((decide (3000 < n) || decide (3000 < n')) = false) := by
    show _ = false
    rw [decide_eq_false (by omega), decide_eq_false (by omega)]; rfl
  have hn : n ≤ 4096 := by omega
  have hn' : n' ≤ 4096 := by omega
  clear hlong
  go_enter Try.func6, Try.ntmps6
  go_wp2_with fail
  refine (a2Long_any v v' n n' w HS1.out HS2.out hn0 hn0').mono ?_
  rw [hl.out]
  rintro e w1 ⟨rfl, rfl⟩
  go_wp2_with fail
  refine (A2Ground_any v n w hn HV.out).mono ?_
  rintro e w1 ⟨g, rfl, hd, hb1⟩
  have HB1 := Lib.hid hb1
  have HD := Lib.hid hd
  have hr := hd.rng
  clear hb1 hd
  go_wp2_with (first | (with_reducible refine wpList_new newF ?_) | (with_reducible refine wpList_zero (zeroF _) ?_) | (with_reducible refine wpList_new newG ?_) | (with_reducible refine wpList_zero (zeroG _) ?_))
  intro B wB hB1 hB2 hB3 hB4
  have HBB := Lib.hid (below_to HB1.out hB4)
  have hwB : w.heap.size ≤ B := by have := HB1.out.size; omega
  clear hB4
  go_wp2_with ((with_reducible refine wpList_putG (g := g) hB3 ?_ ?_ ?_); rfl; rfl)
  intro w2 s2 b2 k2
  have HB2 := Lib.hid (below_grown HBB.out k2 HBB.out.size hwB)
  have HG2 := Lib.hid b2
  clear hB3 k2
  go_wp2_with ((with_reducible refine wpList_getG b2 ?_ ?_); rfl)
  refine (A2Cell_any v' n' g w2 hn' (HV'.out.far HB2.out) HD.out).mono ?_
  rintro e w3 ⟨c, rfl, hc, hb3⟩
  have HB3 := Lib.hid (below_to HB2.out hb3)
  have HG3 := Lib.hid (HG2.out.later hb3)
  have HC := Lib.hid hc
  have hc64 : c < 64 := hc.1
  have ho := HD.out.ok
  have HO := Lib.hid ho
  have hx := HD.out.fxr
  have HX := Lib.hid hx
  have HA := Lib.hid (ask_cell ho hc)
  have HW : Hid (wayL g.m c = pathOf g.m c) := by show (if _ then _ else _) = _; rw [if_pos HA.out]; rfl
  have hlen := path_len ho hc.1 hc.2
  have hpos := path_pos g.m c
  obtain ⟨N⟩ := HD.out.nums
  have HP := Lib.hid (path_facts N ho hc)
  have b3 := HG3.out
  clear hb3 b2 hc ho hx
  go_wp2_with ((with_reducible refine wpList_getG b3 ?_ ?_); rfl)
  refine (WaterPath_any g c w3 hr HX.out).mono ?_
  rw [HA.out, HW.out]
  rintro e w4 ⟨u1, rfl, hu1, hb4⟩
  have HB4 := Lib.hid (below_to HB3.out hb4)
  have HG4 := Lib.hid (HG3.out.later hb4)
  have HU1 := Lib.hid (listAt64 hu1)
  have b4 := HG4.out
  clear hb4 hu1 b3
  go_wp2_with ((with_reducible refine wpList_getG b4 ?_ ?_); rfl)
  refine (specWaterPath_any g c w4 hr HX.out).mono ?_
  rw [HA.out, HW.out]
  rintro e w5 ⟨u2, rfl, hu2, hb5⟩
  have HB5 := Lib.hid (below_to HB4.out hb5)
  have HG5 := Lib.hid (HG4.out.later hb5)
  have HU1' := Lib.hid (HU1.out.far hb5)
  have HU2 := Lib.hid (listAt64 hu2)
  clear hb5 hu2 b4 HU1
  obtain ⟨P, hP⟩ : ∃ P, pathOf g.m c = P := ⟨_, rfl⟩
  rw [hP] at hlen hpos HU1' HU2 HP HW
  obtain ⟨L, hL⟩ : ∃ L, lastC g.m c = L := ⟨_, rfl⟩
  rw [hL] at HP
  have HPE := Lib.hid hP
  have HLE := Lib.hid hL
  have hlast : P[P.length - 1]? = some L := by rw [← hP, ← hL]; exact last_at g.m c
  have HLast := Lib.hid hlast
  clear hP hL hlast
  go_wp2_with fail
  refine (A2Same_any u1 u2 P w5 hlen HU1'.out HU2.out).mono ?_
  rintro e w6 ⟨rfl, hb6⟩
  have HB6 := Lib.hid (below_to HB5.out hb6)
  have HG6 := Lib.hid (HG5.out.later hb6)
  have HU6 := Lib.hid (HU2.out.far hb6)
  obtain ⟨aL, cap, rfl, hLL⟩ := HU6.out
  have HLL := Lib.hid hLL
  obtain ⟨gq, rfl, hq0⟩ := hLL 0 c HP.out.2.2.2.2
  have e0 : ((P.length : Int) == 0) = false := by simpa using (by omega : ¬ P.length = 0)
  have e1 : (0 : Int) < (P.length : Int) := by omega
  have e2 : 0 < P.length := hpos
  clear hb6 HU1' HU2 hLL
  go_wp2_with fail
  go_loopw [11] (fun v11 wr => CtrRel 1 P.length w w6 v11 wr) (fun v11 _ => P.length - (intOf v11).toNat)
  case atStart => exact ⟨1, by omega, by omega, rfl, HB6.out, Below.refl _ _⟩
  case round =>
    obtain ⟨j, hj1, hj2, rfl, hB, hBL⟩ := hrel
    have HBr := Lib.hid hB
    have HBL := Lib.hid hBL
    clear hB hBL hq0
    by_cases hlt : j < P.length
    · obtain ⟨i, rfl⟩ : ∃ i, j = i + 1 := ⟨j - 1, by omega⟩
      obtain ⟨a, ha⟩ : ∃ a, P[i + 1]? = some a := ⟨_, List.getElem?_eq_getElem hlt⟩
      obtain ⟨p, hp⟩ : ∃ p, P[i]? = some p := ⟨_, List.getElem?_eq_getElem (by omega)⟩
      have hca : IsCell g.m a := HP.out.2.2.1 a (List.mem_of_getElem? ha)
      have hcp : IsCell g.m p := HP.out.2.2.1 p (List.mem_of_getElem? hp)
      have hfall := HP.out.2.1 i p a hp ha
      have hf : flt (fb (g.h a)) (fb (g.h p)) = true := by
        have h1 := N.rvh hca
        have h2 := N.rvh hcp
        rw [show g.m.h a = fb (g.h a) from fm_of hca.1] at h1
        rw [show g.m.h p = fb (g.h p) from fm_of hcp.1] at h2
        rw [h1.lt h2]
        refine decide_eq_true ?_
        have := Rat.intCast_lt_intCast.2 hfall
        unfold quart
        grind
      obtain ⟨gq1, eq1, q1⟩ := HLL.out (i + 1) a ha
      cases eq1
      obtain ⟨gq2, eq2, q2⟩ := HLL.out i p hp
      cases eq2
      have c1 := cell_below HBL.out q1
      have c2 := cell_below HBL.out q2
      have hGr := HG6.out.below HBL.out HG6.out.lt
      have c3 := (GAt.of_blk hGr).h (k := a) hca.1
      have c4 := (GAt.of_blk hGr).h (k := p) hcp.1
      have hlt' := order_lt
      have z1 : (i : Int) + 1 < (P.length : Int) := by omega
      have z2 : (i : Int) < (P.length : Int) := by omega
      have z3 : ((i : Int) + 1).toNat = i + 1 := by omega
      have z4 : IntKind.i64.wrap (i : Int) = (i : Int) := by rw [IntKind.wrap_i64]; omega
      have z5 : (i : Int) + 1 - 1 = (i : Int) := by omega
      have z6 : (0 : Int) ≤ (i : Int) + 1 := by omega
      have za : a < 64 := hca.1
      have zp : p < 64 := hcp.1
      have za1 : (a : Int) < 64 := by omega
      have zp1 : (p : Int) < 64 := by omega
      simp only [Nat.zero_add] at c3 c4
      clear q1 q2 ha hp hca hcp hfall hGr
      go_wp2_with fail
      go_quiet (fail)
      go_wp2_with fail
      go_roundw
      case rel => exact ⟨i + 1 + 1, by omega, by omega, by go_num, below_drawn HBr.out _, below_drawn HBL.out _⟩
      case measure => simp [intOf]; omega
    · have j1 : ¬ (j : Int) < (P.length : Int) := by omega
      obtain ⟨gq1, eq1, q1⟩ := HLL.out (P.length - 1) L HLast.out
      cases eq1
      have c1 := cell_below HBL.out q1
      obtain ⟨l1, hl1⟩ : ∃ l1, P.length - 1 = l1 := ⟨_, rfl⟩
      rw [hl1] at c1
      have z1 : (P.length : Int) - 1 = (l1 : Int) := by omega
      have z2 : (l1 : Int) < (P.length : Int) := by omega
      have HG7 := Lib.hid (HG6.out.below HBL.out HG6.out.lt)
      clear q1 hl1
      obtain ⟨w7, rfl⟩ : ∃ w7 : World, w7 = wr := ⟨_, rfl⟩
      have HB7 := HBr
      have hLc : IsCell g.m L := HP.out.1
      clear HBL HLL HPE HBr
      go_wp2_with fail
      clear c1
      go_loopw [13] (fun v13 wr => CtrRel 0 4 w w7 v13 wr) (fun v13 _ => 4 - (intOf v13).toNat)
      case atStart => exact ⟨0, by omega, by omega, rfl, HB7.out, Below.refl _ _⟩
      case round =>
        obtain ⟨t, ht1, ht2, rfl, hB, hBL⟩ := hrel
        have HBr := Lib.hid hB
        have HBL := Lib.hid hBL
        have HG8 := Lib.hid (HG7.out.below hBL HG7.out.lt)
        have b8 := HG8.out
        clear hB hBL
        by_cases htl : t < 4
        · have z3 : (t : Int) < 4 := by omega
          have hgt := order_gt
          go_wp2_with ((with_reducible refine wpList_getG b8 ?_ ?_); rfl)
          refine (FlowFrom_any L t g _ HD.out.sane HO.out hLc htl).mono ?_
          rintro e w9 ⟨r, rfl, hr9, hb9⟩
          have HB9 := Lib.hid (below_to HBr.out hb9)
          have HBL9 := Lib.hid (below_to HBL.out hb9)
          have hf : fgt (fb r) (fb 0) = false := by rw [hr9.out, fb0]; exact HP.out.2.2.2.1 t htl
          clear hb9 hr9 b8
          go_wp2_with fail
          exact ⟨⟨t + 1, by omega, by omega, by go_num, HB9.out, HBL9.out⟩, by simp [intOf]; omega⟩
        · have z3 : ¬ (t : Int) < 4 := by omega
          obtain ⟨w10, rfl⟩ : ∃ w10 : World, w10 = wr := ⟨_, rfl⟩
          have HB10 := HBr
          have HG10 := HG8
          clear HBL b8 HBr HG8
          go_wp2_with fail
          go_loopw [16, 17] (fun v16 v17 wr => BasRel2 g.m w w10 v16 v17 wr) (fun _ v17 _ => 64 - (intOf v17).toNat)
          case atStart => exact ⟨0, by omega, rfl, by rw [done_zero], HB10.out, Below.refl _ _⟩
          case round =>
            obtain ⟨i, hi, rfl, rfl, hB, hBL⟩ := hrel
            have HBr := Lib.hid hB
            have HBL := Lib.hid hBL
            have HG11 := Lib.hid (HG10.out.below hBL HG10.out.lt)
            have b11 := HG11.out
            clear hB hBL
            by_cases hil : i < 64
            · have i1 : (i : Int) < 64 := by omega
              cases hh : hasB g.wide g.high i
              · have HH := Lib.hid hh
                have HN : Hid (bitsL (doneL g.m (i + 1)) = bitsL (doneL g.m i)) := done_skip N HO.out (fun h => by have h2 : hasB g.wide g.high i = true := h.2; rw [hh] at h2; cases h2)
                clear hh
                go_wp2_with (first | ((with_reducible refine wpList_getG b11 ?_ ?_); rfl) | (go_at_call 25; refine (A2Is_any g i _ hr hil).mono ?_; rw [HH.out]; rintro e w12 ⟨rfl, hb12⟩; have HB12 := Lib.hid (below_to HBr.out hb12); have HBL12 := Lib.hid (below_to HBL.out hb12); clear hb12))
                go_roundw
                case rel => exact ⟨i + 1, by omega, by go_num, by rw [HN.out], HB12.out, HBL12.out⟩
                case measure => simp [intOf]; omega
              · have HH := Lib.hid hh
                have hci : IsCell g.m i := ⟨hil, hh⟩
                have HAi := Lib.hid (ask_cell HO.out hci)
                obtain ⟨x, hx⟩ : ∃ x, bitsL (basinL g.m i) = x := ⟨_, rfl⟩
                have HXx : Hid (basL g.m i = x) := by show (if _ then _ else _) = _; rw [if_pos HAi.out]; exact hx
                have HAp : Hid (bits BinOp.and IntKind.u64 (bitsL (doneL g.m i)) x = 0) := by show _ = _; rw [← hx]; exact done_apart g.m i
                have HMo : Hid (bits BinOp.or IntKind.u64 (bitsL (doneL g.m i)) x = bitsL (doneL g.m (i + 1))) := by show _ = _; rw [← hx]; exact done_more g.m i
                have HOd : Hid (((x / 2 ^ c).tmod 2 == 1) = decide (L = i)) := by
                  show _ = _
                  rw [← hx, bitsL_been (fun c hc => basin_lt hc), odd_form]
                  refine decide_eq_decide.2 ?_
                  rw [mem_basin, HLE.out]
                  exact ⟨fun h => h.2, fun h => ⟨mem_cells.2 HC.out, h⟩⟩
                have xr : 0 ≤ x ∧ x < 18446744073709551616 := by rw [← hx]; exact bitsL_rng (fun c hc => basin_lt hc)
                have xr0 := xr.1
                have xr1 := xr.2
                obtain ⟨y, hy⟩ : ∃ y, bitsL (doneL g.m i) = y := ⟨_, rfl⟩
                rw [hy] at HAp HMo
                rw [hy]
                have HY := Lib.hid hy
                clear hh hx xr hy
                go_wp2_with ((with_reducible refine wpList_getG b11 ?_ ?_); rfl)
                refine (A2Is_any g i _ hr hil).mono ?_
                rw [HH.out]
                rintro e w12 ⟨rfl, hb12⟩
                have HB12 := Lib.hid (below_to HBr.out hb12)
                have HBL12 := Lib.hid (below_to HBL.out hb12)
                have HG12 := Lib.hid (HG11.out.later hb12)
                have b12 := HG12.out
                clear hb12
                go_wp2_with ((with_reducible refine wpList_getG b12 ?_ ?_); rfl)
                refine (BasinOf_any g i _ hr HX.out).mono ?_
                rw [HAi.out, HXx.out]
                rintro e w13 ⟨rfl, hb13⟩
                have HB13 := Lib.hid (below_to HB12.out hb13)
                have HBL13 := Lib.hid (below_to HBL12.out hb13)
                have HG13 := Lib.hid (HG12.out.later hb13)
                have b13 := HG13.out
                clear hb13 b12 b11
                go_wp2_with ((with_reducible refine wpList_getG b13 ?_ ?_); rfl)
                refine (specBasinOf_any g i _ hr HX.out).mono ?_
                rw [HAi.out, HXx.out]
                rintro e w14 ⟨rfl, hb14⟩
                have HB14 := Lib.hid (below_to HB13.out hb14)
                have HBL14 := Lib.hid (below_to HBL13.out hb14)
                have hap := HAp.out
                have hod := HOd.out
                clear hb14 b13
                by_cases hiL : i = L
                · have q1 : ((i : Int) == (L : Int)) = true := by rw [hiL]; simp
                  rw [decide_eq_true hiL.symm] at hod
                  clear hiL
                  go_wp2_with fail
                  go_roundw
                  case rel => exact ⟨i + 1, by omega, by go_num, by rw [← HMo.out], HB14.out, HBL14.out⟩
                  case measure => simp [intOf]; omega
                · have q1 : ((i : Int) == (L : Int)) = false := beq_eq_false_iff_ne.2 (by omega)
                  rw [decide_eq_false (fun h => hiL h.symm)] at hod
                  clear hiL
                  go_wp2_with fail
                  go_roundw
                  case rel => exact ⟨i + 1, by omega, by go_num, by rw [← HMo.out], HB14.out, HBL14.out⟩
                  case measure => simp [intOf]; omega
            · have i1 : ¬ (i : Int) < 64 := by omega
              obtain rfl : i = 64 := by omega
              rw [done_all N HO.out]
              go_wp2_with ((with_reducible refine wpList_getG b11 ?_ ?_); rfl)
              refine (CellsOf_any g _ hr HO.out).mono ?_
              rintro e w12 ⟨rfl, hb12⟩
              have HB12 := Lib.hid (below_to HBr.out hb12)
              clear hb12
              go_wp2_with fail
              go_ret
              exact ⟨by simp, HB12.out⟩
end Go.Proofs.Ytfcphfdfpjmgiaa
