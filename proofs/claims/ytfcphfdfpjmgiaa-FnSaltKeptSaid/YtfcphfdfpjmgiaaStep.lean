/- All cells settled at once; all cells settled in their order. -/
import Derived.Test.YtfcphfdfpjmgiaaSweep
namespace Go.Proofs.Ytfcphfdfpjmgiaa
open Go.RowKit

/-- A ground's bits of fixed cells are a word. -/
def stepM (m : M) : M := if okI m then swM (once m (cellsM m)) else G0.m
def stepX (m : M) : F := if okI m then swX m (once m (cellsM m)) else some 0
def stepC (m : M) : Int := if okI m then swC (once m (cellsM m)) else 1
def ordM (m : M) : M := if okI m then swM (swp m (cellsM m)) else G0.m
def ordX (m : M) : F := if okI m then swX m (swp m (cellsM m)) else some 0
def ordC (m : M) : Int := if okI m then swC (swp m (cellsM m)) else 1

def OnceRel (m : M) (l : List Nat) (w1 : World) (B : Nat) (v15 : Value) (wr : World) : Prop :=
  ∃ (j : Nat) (g : G), j ≤ l.length ∧ v15 = .int .i64 j ∧ g.m = once m (l.take j) ∧ Blk wr B (arrG g) 30 ∧ w1.grownBy wr (some B)

set_option maxRecDepth 100000 in
set_option maxHeartbeats 800000 in
theorem StepAtOnce_any (g : G) (w : World) (hr : g.Rng) (hx : g.Fx) :
    Calls Try.prog 64 #[.agg (arrG g)] w (RetGF (stepM g.m) (stepX g.m) (stepC g.m) w) := by
  cases hok : okI g.m
  · have HOK := Lib.hid hok
    clear hok
    go_enter Try.func64, Try.ntmps64
    go_wp2_with (with_reducible refine wpList_box rfl ?_)
    intro b w1 hB1 hB2 hB3 hB4
    go_wp2_with (first | (with_reducible refine wpList_new newF ?_) | (with_reducible refine wpList_zero (zeroF _) ?_) | (with_reducible refine wpList_new newG ?_) | (with_reducible refine wpList_zero (zeroG _) ?_))
    intro A w2 hA1 hA2 hA3 hA4
    go_wp2_with ((with_reducible refine wpList_getG (hB3.later hA4) ?_ ?_); rfl)
    refine (ValidGround_any g w2 hr).mono ?_
    rw [HOK.out]
    rintro e w3 ⟨rfl, hb3⟩
    have HA3 := hA3.later hb3
    have HB := Lib.hid ((hB4.trans (hA4.mono hB4.size)).trans (hb3.mono (Nat.le_trans hB4.size hA4.size)))
    clear hB3 hB4 hA3 hA4 hb3
    go_wp2_with (first | (with_reducible refine wpList_new newF ?_) | (with_reducible refine wpList_zero (zeroF _) ?_) | (with_reducible refine wpList_new newG ?_) | (with_reducible refine wpList_zero (zeroG _) ?_) | ((with_reducible refine wpList_putG (g := G0) HA3 ?_ ?_ ?_); rfl; rfl))
    intro w5 h51 h52 h53
    go_wp2_with fail
    refine ret_cell3 rfl rfl (loadG h52) rfl ⟨G0, 0, ?_, ?_, ?_, ?_⟩
    · unfold stepC; rw [HOK.out]; rfl
    · unfold stepM; rw [HOK.out]; rfl
    · unfold stepX; rw [HOK.out]; exact fb0
    · exact below_grown HB.out h53 HB.out.size (by omega)
  · have HOK := Lib.hid hok
    have hs := sane_of hok hx
    clear hok
    go_enter Try.func64, Try.ntmps64
    go_wp2_with (with_reducible refine wpList_box rfl ?_)
    intro b w1 hB1 hB2 hB3 hB4
    go_wp2_with (first | (with_reducible refine wpList_new newF ?_) | (with_reducible refine wpList_zero (zeroF _) ?_) | (with_reducible refine wpList_new newG ?_) | (with_reducible refine wpList_zero (zeroG _) ?_))
    intro A w2 hA1 hA2 hA3 hA4
    go_wp2_with ((with_reducible refine wpList_getG (hB3.later hA4) ?_ ?_); rfl)
    refine (ValidGround_any g w2 hr).mono ?_
    rw [HOK.out]
    rintro e w3 ⟨rfl, hb3⟩
    have HA3 := hA3.later hb3
    have hG := (hB3.later hA4).later hb3
    have HB := Lib.hid ((hB4.trans (hA4.mono hB4.size)).trans (hb3.mono (Nat.le_trans hB4.size hA4.size)))
    have hbA : b < A := by omega
    have hA3' : A < w3.heap.size := HA3.lt
    clear hB3 hB4 hA3 hA4 hb3
    go_wp2_with (first | ((with_reducible refine wpList_getG hG ?_ ?_); rfl) | (with_reducible refine wpList_new newF ?_) | (with_reducible refine wpList_zero (zeroF _) ?_) | (with_reducible refine wpList_new newG ?_) | (with_reducible refine wpList_zero (zeroG _) ?_))
    intro B w4 hC1 hC2 hC3 hC4
    have HA4 := HA3.later hC4
    have hG4 := hG.later hC4
    go_wp2_with (refine wpList_putG hC3 rfl rfl ?_)
    intro w5 h51 h52 h53
    have HA5 := HA4.grown h53 (by omega)
    have hG5 := hG4.grown h53 (by omega)
    have HB5 := Lib.hid (below_grown (HB.out.trans (hC4.mono HB.out.size)) h53 (Nat.le_trans HB.out.size hC4.size) (by have := HB.out.size; omega))
    clear HA3 hG hC3 hC4 HA4 hG4 h53
    go_wp2_with fail
    refine (cells_any b 0 g w5 hr (GAt.of_blk hG5)).mono ?_
    rintro e w6 ⟨v, rfl, hown, hb6⟩
    obtain ⟨aL, cap, rfl, hL⟩ := list_form hown
    have HL := Lib.hid hL
    have HA6 := Lib.hid (HA5.later hb6)
    have HG6 := Lib.hid (hG5.later hb6)
    have HBl6 := Lib.hid (h52.later hb6)
    have HB6 := Lib.hid (HB5.out.trans (hb6.mono HB5.out.size))
    have hBlt : B < w5.heap.size := h52.lt
    have hABlt : A < B := by omega
    have hAw : w.heap.size ≤ A := by omega
    have hBw : w.heap.size ≤ B := by omega
    clear hL hown HA5 hG5 h52 hb6
    go_wp2_with fail
    go_loopw [15] (fun v15 wr => OnceRel g.m (cellsM g.m) w6 B v15 wr) (fun v15 _ => (cellsM g.m).length - (intOf v15).toNat)
    case atStart => exact ⟨0, g, by omega, rfl, rfl, HBl6.out, grown_refl _ _⟩
    case round =>
      obtain ⟨j, gg, hj, rfl, hm, hB, hgr⟩ := hrel
      have HM := Lib.hid hm
      have hsg : gg.Sane := M.Sane.g (by rw [hm]; exact once_sane hs.m _)
      have HB := Lib.hid hB
      have HGR := Lib.hid hgr
      have HGb := Lib.hid (HG6.out.grown hgr (by omega))
      clear hm hB hgr
      by_cases hlt : j < (cellsM g.m).length
      · obtain ⟨c, hc⟩ : ∃ c, (cellsM g.m)[j]? = some c := ⟨_, List.getElem?_eq_getElem hlt⟩
        have hc64 : c < 64 := cellsTo_lt (List.mem_of_getElem? hc)
        have hj64 : j < 64 := Nat.lt_of_lt_of_le hlt (cellsTo_length _ _ _)
        obtain ⟨gq, rfl, hq1, hq2, hq3⟩ := HL.out j c hc
        have hcell := cell_grown hq3 HGR.out (by omega)
        have HC := Lib.hid hc
        have hc64' : (c : Int) < 64 := by omega
        have hlt' : (j : Int) < ((cellsTo g.wide g.high 64).length : Int) := by have : j < (cellsTo g.wide g.high 64).length := hlt; omega
        clear hq3 hc
        go_wp2_with fail
        refine (settled_any b 0 c g wr hc64 hs (GAt.of_blk HGb.out)).mono ?_
        rintro e w7 ⟨r, rfl, hr7, hb7⟩
        have HB7 := HB.out.later hb7
        have HR := Lib.hid hr7
        clear hr7
        go_wp2_with (refine wpList_setH HB7 hc64 rfl rfl ?_)
        intro w8 h81 h82 h83
        have H82 := Lib.hid h82
        have HG8 := Lib.hid ((grown_trans (grown_trans HGR.out (grown_below hb7)) h83 : w6.grownBy w8 (some B)))
        have HM8 : Hid (G.m { gg with h := upd gg.h c r } = once g.m ((cellsM g.m).take (j + 1))) := by
          show G.m _ = _
          rw [take_more HC.out, once_snoc, m_setH gg hc64, HR.out.out, HM.out]
        clear h82 hb7 HB7 h83 hcell
        go_wp2_with fail
        go_roundw
        case rel => exact ⟨j + 1, _, by omega, by go_num, HM8.out, H82.out, HG8.out⟩
        case measure => simp [intOf]; omega
      · have hjn : j = (cellsM g.m).length := by omega
        have hlt' : ¬ (j : Int) < ((cellsTo g.wide g.high 64).length : Int) := by have : ¬ j < (cellsTo g.wide g.high 64).length := hlt; omega
        have HM2 : Hid (gg.m = once g.m (cellsM g.m)) := by
          have := HM.out
          rw [List.take_of_length_le (Nat.le_of_eq hjn.symm)] at this; exact this
        have HAr := Lib.hid (HA6.out.grown HGR.out (by omega))
        have HBr := Lib.hid (below_grown HB6.out HGR.out HB6.out.size (by omega))
        clear hjn
        go_wp2_with fail
        refine (toldGround_any b 0 B _ g gg wr hs hsg.rng (GAt.of_blk HGb.out) HB.out).mono ?_
        rw [HM2.out]
        rintro e w9 ⟨go, r, rfl, hm9, hr9, hb9⟩
        have HA9 := HAr.out.later hb9
        have HB9 := Lib.hid (HBr.out.trans (hb9.mono HBr.out.size))
        clear hb9
        go_wp2_with (first | (with_reducible refine wpList_new newF ?_) | (with_reducible refine wpList_zero (zeroF _) ?_) | (with_reducible refine wpList_new newG ?_) | (with_reducible refine wpList_zero (zeroG _) ?_) | ((with_reducible refine wpList_putG (g := go) HA9 ?_ ?_ ?_); rfl; rfl))
        intro w10 h101 h102 h103
        go_wp2_with fail
        refine ret_cell3 rfl rfl (loadG h102) rfl ⟨go, r, ?_, ?_, ?_, below_grown HB9.out h103 HB9.out.size (by omega)⟩
        · unfold stepC; rw [HOK.out]; rfl
        · unfold stepM; rw [HOK.out]; exact hm9
        · unfold stepX; rw [HOK.out]; exact hr9
end Go.Proofs.Ytfcphfdfpjmgiaa
