/- A sweep of the cells of a colour. -/
import Derived.Test.YtfcphfdfpjmgiaaDel
namespace Go.Proofs.Ytfcphfdfpjmgiaa
open Go.RowKit

/-- A variable of a parameter of one cell. -/
theorem wpList_box1 {P : Program} {ops : Array Oper} {Q : Exit → Act → World → Prop} {rest : List Oper} {a : Act} {w : World} {dst : Option Tmp} {T ty : TypeId} {X : Operand} {pos : String} {after : Array Edge}
    {v : Value} (hx : a.eval X = v) (hc : v.cells = #[v])
    (h : ∀ B w', w.heap.size ≤ B → B < w'.heap.size → Blk w' B #[v] T → Below w.heap.size w w' → wpList P ops Q rest (a.put dst (.pointer (some ⟨B, 0, none⟩))) w') : wpList P ops Q (⟨dst, .box T X, ty, pos, after, none⟩ :: rest) a w :=
  wpList_ran rfl (v := .pointer (some ⟨w.heap.size, 0, none⟩)) (w' := w.alloc (.cells #[v] T)) (by simp only [execOp, hx, Instr.box, newVar, newRow, newObj, hc]; rfl) (h _ _ (Nat.le_refl _) (by simp) (Blk.new w #[v] T) ((Below.refl _ _).alloc (Nat.le_refl _) _))

def clM (m : M) (z : Int) : M := if okI m then (if decide (0 ≤ z ∧ z ≤ 1) then swM (colM m z) else G0.m) else G0.m
def clX (m : M) (z : Int) : F := if okI m then (if decide (0 ≤ z ∧ z ≤ 1) then swX m (colM m z) else some 0) else some 0
def clC (m : M) (z : Int) : Int := if okI m then (if decide (0 ≤ z ∧ z ≤ 1) then swC (colM m z) else 2) else 1

theorem colTo_filter {m : M} {z : Int} (hz : 0 ≤ z) : ((cellsM m).filter fun c => !colP z c) = colTo m.wide m.high z 64 := by
  unfold cellsM cellsTo colTo
  rw [List.filter_filter]
  congr 1
  funext c
  have hd : decide (z < 0) = false := decide_eq_false (by omega)
  unfold colP colB
  rw [hd, Bool.false_or, Bool.and_comm]
  congr 1
  simp

set_option maxRecDepth 100000 in
set_option maxHeartbeats 1600000 in
theorem SweepColour_any (g : G) (z : Int) (w : World) (hr : g.Rng) (hx : g.Fx) :
    Calls Try.prog 70 #[.agg (arrG g), .int .i64 z] w (RetGF (clM g.m z) (clX g.m z) (clC g.m z) w) := by
  cases hok : okI g.m
  · have HOK := Lib.hid hok
    clear hok hx
    go_enter Try.func70, Try.ntmps70
    go_wp2_with (with_reducible refine wpList_box rfl ?_)
    intro b w1 hB1 hB2 hB3 hB4
    go_wp2_with (with_reducible refine wpList_box1 (v := .int .i64 z) rfl rfl ?_)
    intro zb wz hZ1 hZ2 hZ3 hZ4
    go_wp2_with (first | (with_reducible refine wpList_new newF ?_) | (with_reducible refine wpList_zero (zeroF _) ?_) | (with_reducible refine wpList_new newG ?_) | (with_reducible refine wpList_zero (zeroG _) ?_))
    intro A w2 hA1 hA2 hA3 hA4
    have HGb := (hB3.later hZ4).later hA4
    have HBa := (hB4.trans (hZ4.mono hB4.size)).trans (hA4.mono (Nat.le_trans hB4.size hZ4.size))
    have hAw : w.heap.size ≤ A := by omega
    clear hB3 hB4 hZ3 hZ4 hA4
    go_wp2_with (first | ((with_reducible refine wpList_getG HGb ?_ ?_); rfl))
    refine (ValidGround_any g w2 hr).mono ?_
    rw [HOK.out]
    rintro e w3 ⟨rfl, hb3⟩
    have HA3 := hA3.later hb3
    have HB := Lib.hid (HBa.trans (hb3.mono HBa.size))
    clear hA3 hb3 HGb HBa
    go_wp2_with (first | (with_reducible refine wpList_new newF ?_) | (with_reducible refine wpList_zero (zeroF _) ?_) | (with_reducible refine wpList_new newG ?_) | (with_reducible refine wpList_zero (zeroG _) ?_) | ((with_reducible refine wpList_putG (g := G0) HA3 ?_ ?_ ?_); rfl; rfl))
    intro w5 h51 h52 h53
    go_wp2_with fail
    refine ret_cell3 rfl rfl (loadG h52) rfl ⟨G0, 0, ?_, ?_, ?_, ?_⟩
    · unfold clC; rw [HOK.out]; rfl
    · unfold clM; rw [HOK.out]; rfl
    · unfold clX; rw [HOK.out]; exact fb0
    · exact below_grown HB.out h53 HB.out.size (by omega)
  · have HOK := Lib.hid hok
    have hs := sane_of hok hx
    clear hok
    by_cases hin : 0 ≤ z ∧ z ≤ 1
    · have HIN : Hid (decide (0 ≤ z ∧ z ≤ 1) = true) := decide_eq_true hin
      obtain ⟨m0, m1⟩ := hin
      go_enter Try.func70, Try.ntmps70
      go_wp2_with (with_reducible refine wpList_box rfl ?_)
      intro b w1 hB1 hB2 hB3 hB4
      go_wp2_with (with_reducible refine wpList_box1 (v := .int .i64 z) rfl rfl ?_)
      intro zb wz hZ1 hZ2 hZ3 hZ4
      go_wp2_with (first | (with_reducible refine wpList_new newF ?_) | (with_reducible refine wpList_zero (zeroF _) ?_) | (with_reducible refine wpList_new newG ?_) | (with_reducible refine wpList_zero (zeroG _) ?_))
      intro A w2 hA1 hA2 hA3 hA4
      have HGb := (hB3.later hZ4).later hA4
      have HZb := hZ3.later hA4
      have HBa := (hB4.trans (hZ4.mono hB4.size)).trans (hA4.mono (Nat.le_trans hB4.size hZ4.size))
      have hAw : w.heap.size ≤ A := by omega
      have hbw : b < A := by omega
      have hzw : zb < A := by omega
      have hbz : b ≠ zb := by omega
      clear hB3 hB4 hZ3 hZ4 hA4
      go_wp2_with (first | ((with_reducible refine wpList_getG HGb ?_ ?_); rfl))
      refine (ValidGround_any g w2 hr).mono ?_
      rw [HOK.out]
      rintro e w3 ⟨rfl, hb3⟩
      have HA3 := hA3.later hb3
      have HG3 := HGb.later hb3
      have HZ3 := HZb.later hb3
      have hcz := HZ3.at (i := 0) (v := .int .i64 z) rfl
      have HB := Lib.hid (HBa.trans (hb3.mono HBa.size))
      have hA3' : A < w3.heap.size := HA3.lt
      clear hA3 hb3 HGb HBa HZb
      go_wp2_with (go_at_call 103; refine (in_yes _ _ _ _ (by omega) (by omega)).mono ?_; rintro e w' ⟨rfl, rfl⟩)
      refine (cells_any b 0 g w3 hr (GAt.of_blk HG3)).mono ?_
      rintro e w4 ⟨v, rfl, hown, hb4⟩
      obtain ⟨gq, cap, rfl, hgq, hLB⟩ := lblk_of hown (cells_ne (m := g.m) hs.lW hs.lH)
      have hz4 := (HZ3.later hb4).at (i := 0) (v := .int .i64 z) rfl
      have HG4 := HG3.later hb4
      have HA4 := HA3.later hb4
      have HB4 := Lib.hid (HB.out.trans (hb4.mono HB.out.size))
      have HLB := Lib.hid hLB
      clear HG3 HA3 HZ3 hb4 hown hLB hcz
      go_wp2_with fail
      refine (del_col gq cap (cellsM g.m) zb z w4 (fun c hc => cellsTo_lt hc) (cellsTo_length _ _ _) HLB.out hz4 (by omega)).mono ?_
      rintro e w5 ⟨rfl, hLB5, hgr5⟩
      have HG5 := HG4.grown hgr5 (by omega)
      have HA5 := Lib.hid (HA4.grown hgr5 (by omega))
      have HB5 := Lib.hid (below_grown HB4.out hgr5 HB4.out.size (by have := HB.out.size; omega))
      have HF : Hid (((cellsM g.m).filter fun c => !colP z c) = colTo g.m.wide g.m.high z 64) := colTo_filter m0
      rw [HF.out] at hLB5
      rw [HF.out]
      have hL5 := LBlk.list hLB5
      have hlen5 : (colTo g.m.wide g.m.high z 64).length ≤ 64 := by unfold colTo; exact Nat.le_trans (List.length_filter_le _ _) (by simp)
      have hlt5 : ∀ c ∈ colTo g.m.wide g.m.high z 64, c < 64 := fun c hc => by unfold colTo at hc; simpa using (List.mem_filter.1 hc).1
      clear HG4 HA4 hgr5 hz4
      go_wp2_with fail
      refine (sweep_any b _ _ _ g w5 hs hlt5 hlen5 hL5 HG5).mono ?_
      rintro e w9 ⟨go, r, rfl, hm9, hr9, hb9⟩
      have HA9 := HA5.out.later hb9
      have HB9 := Lib.hid (HB5.out.trans (hb9.mono HB5.out.size))
      clear hb9
      go_wp2_with (first | (with_reducible refine wpList_new newF ?_) | (with_reducible refine wpList_zero (zeroF _) ?_) | (with_reducible refine wpList_new newG ?_) | (with_reducible refine wpList_zero (zeroG _) ?_) | ((with_reducible refine wpList_putG (g := go) HA9 ?_ ?_ ?_); rfl; rfl))
      intro w10 h101 h102 h103
      go_wp2_with fail
      refine ret_cell3 rfl rfl (loadG h102) rfl ⟨go, r, ?_, ?_, ?_, below_grown HB9.out h103 HB9.out.size (by omega)⟩
      · unfold clC; rw [HOK.out, HIN.out]; rfl
      · unfold clM; rw [HOK.out, HIN.out]; exact hm9
      · unfold clX; rw [HOK.out, HIN.out]; exact hr9
    · have HIN : Hid (decide (0 ≤ z ∧ z ≤ 1) = false) := decide_eq_false hin
      clear hs
      go_enter Try.func70, Try.ntmps70
      go_wp2_with (with_reducible refine wpList_box rfl ?_)
      intro b w1 hB1 hB2 hB3 hB4
      go_wp2_with (with_reducible refine wpList_box1 (v := .int .i64 z) rfl rfl ?_)
      intro zb wz hZ1 hZ2 hZ3 hZ4
      go_wp2_with (first | (with_reducible refine wpList_new newF ?_) | (with_reducible refine wpList_zero (zeroF _) ?_) | (with_reducible refine wpList_new newG ?_) | (with_reducible refine wpList_zero (zeroG _) ?_))
      intro A w2 hA1 hA2 hA3 hA4
      have HGb := (hB3.later hZ4).later hA4
      have HZb := hZ3.later hA4
      have HBa := (hB4.trans (hZ4.mono hB4.size)).trans (hA4.mono (Nat.le_trans hB4.size hZ4.size))
      have hAw : w.heap.size ≤ A := by omega
      clear hB3 hB4 hZ3 hZ4 hA4
      go_wp2_with (first | ((with_reducible refine wpList_getG HGb ?_ ?_); rfl))
      refine (ValidGround_any g w2 hr).mono ?_
      rw [HOK.out]
      rintro e w3 ⟨rfl, hb3⟩
      have HA3 := hA3.later hb3
      have hcz := (HZb.later hb3).at (i := 0) (v := .int .i64 z) rfl
      have HB := Lib.hid (HBa.trans (hb3.mono HBa.size))
      clear hA3 hb3 HGb HBa HZb
      go_wp2_with (first | (go_at_call 103; refine (in_no _ _ _ _ hin).mono ?_; rintro e w' ⟨rfl, rfl⟩) | (with_reducible refine wpList_new newF ?_) | (with_reducible refine wpList_zero (zeroF _) ?_) | (with_reducible refine wpList_new newG ?_) | (with_reducible refine wpList_zero (zeroG _) ?_) | ((with_reducible refine wpList_putG (g := G0) HA3 ?_ ?_ ?_); rfl; rfl))
      intro w5 h51 h52 h53
      go_wp2_with fail
      refine ret_cell3 rfl rfl (loadG h52) rfl ⟨G0, 0, ?_, ?_, ?_, ?_⟩
      · unfold clC; rw [HOK.out, HIN.out]; rfl
      · unfold clM; rw [HOK.out, HIN.out]; rfl
      · unfold clX; rw [HOK.out, HIN.out]; exact fb0
      · exact below_grown HB.out h53 HB.out.size (by omega)

set_option maxRecDepth 100000 in
set_option maxHeartbeats 1600000 in
theorem specSweepColour_any (g : G) (z : Int) (w : World) (hr : g.Rng) (hx : g.Fx) :
    Calls Try.prog 71 #[.agg (arrG g), .int .i64 z] w (RetGF (clM g.m z) (clX g.m z) (clC g.m z) w) := by
  cases hok : okI g.m
  · have HOK := Lib.hid hok
    clear hok hx
    go_enter Try.func71, Try.ntmps71
    go_wp2_with (with_reducible refine wpList_box rfl ?_)
    intro b w1 hB1 hB2 hB3 hB4
    go_wp2_with (first | (with_reducible refine wpList_new newF ?_) | (with_reducible refine wpList_zero (zeroF _) ?_) | (with_reducible refine wpList_new newG ?_) | (with_reducible refine wpList_zero (zeroG _) ?_))
    intro A w2 hA1 hA2 hA3 hA4
    have HGb := hB3.later hA4
    have HBa := hB4.trans (hA4.mono hB4.size)
    have hAw : w.heap.size ≤ A := by omega
    clear hB3 hB4 hA4
    go_wp2_with fail
    refine (l01Ok_any b 0 g w2 hr (GAt.of_blk HGb)).mono ?_
    rw [HOK.out]
    rintro e w3 ⟨rfl, hb3⟩
    have HA3 := hA3.later hb3
    have HB := Lib.hid (HBa.trans (hb3.mono HBa.size))
    clear hA3 hb3 HGb HBa
    go_wp2_with (first | (with_reducible refine wpList_new newF ?_) | (with_reducible refine wpList_zero (zeroF _) ?_) | (with_reducible refine wpList_new newG ?_) | (with_reducible refine wpList_zero (zeroG _) ?_) | ((with_reducible refine wpList_putG (g := G0) HA3 ?_ ?_ ?_); rfl; rfl))
    intro w5 h51 h52 h53
    go_wp2_with fail
    refine ret_cell3 rfl rfl (loadG h52) rfl ⟨G0, 0, ?_, ?_, ?_, ?_⟩
    · unfold clC; rw [HOK.out]; rfl
    · unfold clM; rw [HOK.out]; rfl
    · unfold clX; rw [HOK.out]; exact fb0
    · exact below_grown HB.out h53 HB.out.size (by omega)
  · have HOK := Lib.hid hok
    have hs := sane_of hok hx
    clear hok
    by_cases hin : 0 ≤ z ∧ z ≤ 1
    · have HIN : Hid (decide (0 ≤ z ∧ z ≤ 1) = true) := decide_eq_true hin
      obtain ⟨m0, m1⟩ := hin
      go_enter Try.func71, Try.ntmps71
      go_wp2_with (with_reducible refine wpList_box rfl ?_)
      intro b w1 hB1 hB2 hB3 hB4
      go_wp2_with (first | (with_reducible refine wpList_new newF ?_) | (with_reducible refine wpList_zero (zeroF _) ?_) | (with_reducible refine wpList_new newG ?_) | (with_reducible refine wpList_zero (zeroG _) ?_))
      intro A w2 hA1 hA2 hA3 hA4
      have HGb := hB3.later hA4
      have HBa := hB4.trans (hA4.mono hB4.size)
      have hAw : w.heap.size ≤ A := by omega
      clear hB3 hB4 hA4
      go_wp2_with fail
      refine (l01Ok_any b 0 g w2 hr (GAt.of_blk HGb)).mono ?_
      rw [HOK.out]
      rintro e w3 ⟨rfl, hb3⟩
      have HA3 := hA3.later hb3
      have HG3 := HGb.later hb3
      have HB := Lib.hid (HBa.trans (hb3.mono HBa.size))
      clear hA3 hb3 HGb HBa
      go_wp2_with (go_at_call 96; refine (l00In_yes _ _ _ _ (by omega) (by omega)).mono ?_; rintro e w' ⟨rfl, rfl⟩)
      refine (l02Sweep_any b _ z g w3 hs HG3).mono ?_
      rintro e w9 ⟨go, r, rfl, hm9, hr9, hb9⟩
      have HA9 := HA3.later hb9
      have HB9 := Lib.hid (HB.out.trans (hb9.mono HB.out.size))
      clear hb9
      go_wp2_with (first | (with_reducible refine wpList_new newF ?_) | (with_reducible refine wpList_zero (zeroF _) ?_) | (with_reducible refine wpList_new newG ?_) | (with_reducible refine wpList_zero (zeroG _) ?_) | ((with_reducible refine wpList_putG (g := go) HA9 ?_ ?_ ?_); rfl; rfl))
      intro w10 h101 h102 h103
      go_wp2_with fail
      refine ret_cell3 rfl rfl (loadG h102) rfl ⟨go, r, ?_, ?_, ?_, below_grown HB9.out h103 HB9.out.size (by omega)⟩
      · unfold clC; rw [HOK.out, HIN.out]; rfl
      · unfold clM; rw [HOK.out, HIN.out]; exact hm9
      · unfold clX; rw [HOK.out, HIN.out]; exact hr9
    · have HIN : Hid (decide (0 ≤ z ∧ z ≤ 1) = false) := decide_eq_false hin
      clear hs
      go_enter Try.func71, Try.ntmps71
      go_wp2_with (with_reducible refine wpList_box rfl ?_)
      intro b w1 hB1 hB2 hB3 hB4
      go_wp2_with (first | (with_reducible refine wpList_new newF ?_) | (with_reducible refine wpList_zero (zeroF _) ?_) | (with_reducible refine wpList_new newG ?_) | (with_reducible refine wpList_zero (zeroG _) ?_))
      intro A w2 hA1 hA2 hA3 hA4
      have HGb := hB3.later hA4
      have HBa := hB4.trans (hA4.mono hB4.size)
      have hAw : w.heap.size ≤ A := by omega
      clear hB3 hB4 hA4
      go_wp2_with fail
      refine (l01Ok_any b 0 g w2 hr (GAt.of_blk HGb)).mono ?_
      rw [HOK.out]
      rintro e w3 ⟨rfl, hb3⟩
      have HA3 := hA3.later hb3
      have HB := Lib.hid (HBa.trans (hb3.mono HBa.size))
      clear hA3 hb3 HGb HBa
      go_wp2_with (first | (go_at_call 96; refine (l00In_no _ _ _ _ hin).mono ?_; rintro e w' ⟨rfl, rfl⟩) | (with_reducible refine wpList_new newF ?_) | (with_reducible refine wpList_zero (zeroF _) ?_) | (with_reducible refine wpList_new newG ?_) | (with_reducible refine wpList_zero (zeroG _) ?_) | ((with_reducible refine wpList_putG (g := G0) HA3 ?_ ?_ ?_); rfl; rfl))
      intro w5 h51 h52 h53
      go_wp2_with fail
      refine ret_cell3 rfl rfl (loadG h52) rfl ⟨G0, 0, ?_, ?_, ?_, ?_⟩
      · unfold clC; rw [HOK.out, HIN.out]; rfl
      · unfold clM; rw [HOK.out, HIN.out]; rfl
      · unfold clX; rw [HOK.out, HIN.out]; exact fb0
      · exact below_grown HB.out h53 HB.out.size (by omega)
end Go.Proofs.Ytfcphfdfpjmgiaa
