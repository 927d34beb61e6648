/- The reference's sweeps. -/
import Derived.Test.YtfcphfdfpjmgiaaStep
namespace Go.Proofs.Ytfcphfdfpjmgiaa
open Go.RowKit

def OnceRelS (m : M) (w1 : World) (B : Nat) (v6 : Value) (wr : World) : Prop :=
  ∃ (k : Nat) (g : G), k ≤ 64 ∧ v6 = .int .i64 k ∧ g.m = once m (cellsTo m.wide m.high k) ∧ Blk wr B (arrG g) 30 ∧ w1.grownBy wr (some B)

set_option maxRecDepth 100000 in
set_option maxHeartbeats 800000 in
theorem specStepAtOnce_any (g : G) (w : World) (hr : g.Rng) (hx : g.Fx) :
    Calls Try.prog 65 #[.agg (arrG g)] w (RetGF (stepM g.m) (stepX g.m) (stepC g.m) w) := by
  cases hok : okI g.m
  · have HOK := Lib.hid hok
    clear hok
    go_enter Try.func65, Try.ntmps65
    go_wp2_with (with_reducible refine wpList_box rfl ?_)
    intro b w1 hB1 hB2 hB3 hB4
    go_wp2_with (first | (with_reducible refine wpList_new newF ?_) | (with_reducible refine wpList_zero (zeroF _) ?_) | (with_reducible refine wpList_new newG ?_) | (with_reducible refine wpList_zero (zeroG _) ?_))
    intro A w2 hA1 hA2 hA3 hA4
    go_wp2_with fail
    refine (l01Ok_any b 0 g w2 hr (GAt.of_blk (hB3.later hA4))).mono ?_
    rw [HOK.out]
    rintro e w3 ⟨rfl, hb3⟩
    have HA3 := hA3.later hb3
    have HB := Lib.hid ((hB4.trans (hA4.mono hB4.size)).trans (hb3.mono (Nat.le_trans hB4.size hA4.size)))
    clear hB3 hB4 hA3 hA4 hb3
    go_wp2_with (first | (with_reducible refine wpList_new newF ?_) | (with_reducible refine wpList_zero (zeroF _) ?_) | (with_reducible refine wpList_new newG ?_) | (with_reducible refine wpList_zero (zeroG _) ?_) | ((with_reducible refine wpList_putG (g := G0) HA3 ?_ ?_ ?_); rfl; rfl))
    intro w5 h51 h52 h53
    go_wp2_with fail
    refine ret_cell3 rfl rfl (loadG h52) rfl ⟨G0, 0, ?_, ?_, ?_, ?_⟩
    · unfold stepC; rw [HOK.out]; rfl
    · unfold stepM; rw [HOK.out]; rfl
    · unfold stepX; rw [HOK.out]; exact fb0
    · exact below_grown HB.out h53 HB.out.size (by omega)
  · have HOK := Lib.hid hok
    have hs := sane_of hok hx
    clear hok
    go_enter Try.func65, Try.ntmps65
    go_wp2_with (with_reducible refine wpList_box rfl ?_)
    intro b w1 hB1 hB2 hB3 hB4
    go_wp2_with (first | (with_reducible refine wpList_new newF ?_) | (with_reducible refine wpList_zero (zeroF _) ?_) | (with_reducible refine wpList_new newG ?_) | (with_reducible refine wpList_zero (zeroG _) ?_))
    intro A w2 hA1 hA2 hA3 hA4
    go_wp2_with fail
    refine (l01Ok_any b 0 g w2 hr (GAt.of_blk (hB3.later hA4))).mono ?_
    rw [HOK.out]
    rintro e w3 ⟨rfl, hb3⟩
    have HA3 := hA3.later hb3
    have hG := (hB3.later hA4).later hb3
    have HB := Lib.hid ((hB4.trans (hA4.mono hB4.size)).trans (hb3.mono (Nat.le_trans hB4.size hA4.size)))
    have hbA : b < A := by omega
    have hA3' : A < w3.heap.size := HA3.lt
    clear hB3 hB4 hA3 hA4 hb3
    go_wp2_with (first | ((with_reducible refine wpList_getG hG ?_ ?_); rfl) | (with_reducible refine wpList_new newF ?_) | (with_reducible refine wpList_zero (zeroF _) ?_) | (with_reducible refine wpList_new newG ?_) | (with_reducible refine wpList_zero (zeroG _) ?_))
    intro B w4 hC1 hC2 hC3 hC4
    have HA4 := HA3.later hC4
    have hG4 := hG.later hC4
    go_wp2_with (refine wpList_putG hC3 rfl rfl ?_)
    intro w5 h51 h52 h53
    have HA5 := Lib.hid (HA4.grown h53 (by omega))
    have HG5 := Lib.hid (hG4.grown h53 (by omega))
    have HB5 := Lib.hid (below_grown (HB.out.trans (hC4.mono HB.out.size)) h53 (Nat.le_trans HB.out.size hC4.size) (by have := HB.out.size; omega))
    have HBl5 := Lib.hid h52
    have hABlt : A < B := by omega
    have hAw : w.heap.size ≤ A := by omega
    have hBw : w.heap.size ≤ B := by omega
    clear HA3 hG hC3 hC4 HA4 hG4 h53 h52
    go_wp2_with fail
    go_loopw [6] (fun v6 wr => OnceRelS g.m w5 B v6 wr) (fun v6 _ => 64 - (intOf v6).toNat)
    case atStart => exact ⟨0, g, by omega, rfl, rfl, HBl5.out, grown_refl _ _⟩
    case round =>
      obtain ⟨k, gg, hk, rfl, hm, hB, hgr⟩ := hrel
      have HM := Lib.hid hm
      have hsg : gg.Sane := M.Sane.g (by rw [hm]; exact once_sane hs.m _)
      have HB := Lib.hid hB
      have HGR := Lib.hid hgr
      have HGb := Lib.hid (HG5.out.grown hgr (by omega))
      clear hm hB hgr
      by_cases hlt : k < 64
      · have k1 : (k : Int) < 64 := by omega
        cases hh : hasB g.wide g.high k
        · have HH := Lib.hid hh
          clear hh
          go_wp2_with (go_at_call 111; refine (l01Is_any b 0 k g _ hlt hr (GAt.of_blk HGb.out)).mono ?_; rw [HH.out]; rintro e w' ⟨rfl, rfl⟩)
          go_roundw
          case rel => exact ⟨k + 1, gg, by omega, by go_num, by rw [cellsTo_no (W := (G.m g).wide) (H := (G.m g).high) HH.out]; exact HM.out, HB.out, HGR.out⟩
          case measure => simp [intOf]; omega
        · have HH := Lib.hid hh
          clear hh
          go_wp2_with (go_at_call 111; refine (l01Is_any b 0 k g _ hlt hr (GAt.of_blk HGb.out)).mono ?_; rw [HH.out]; rintro e w' ⟨rfl, rfl⟩)
          refine (l02Head_any b 0 k g wr hlt hs (GAt.of_blk HGb.out)).mono ?_
          rintro e w7 ⟨r, rfl, hr7, hb7⟩
          have HB7 := HB.out.later hb7
          have HR := Lib.hid hr7
          clear hr7
          go_wp2_with (refine wpList_setH HB7 hlt rfl rfl ?_)
          intro w8 h81 h82 h83
          have H82 := Lib.hid h82
          have HG8 := Lib.hid ((grown_trans (grown_trans HGR.out (grown_below hb7)) h83 : w5.grownBy w8 (some B)))
          have HM8 : Hid (G.m { gg with h := upd gg.h k r } = once g.m (cellsTo g.m.wide g.m.high (k + 1))) := by
            show G.m _ = _
            rw [cellsTo_yes (W := (G.m g).wide) (H := (G.m g).high) HH.out, once_snoc, m_setH gg hlt, HR.out.out, HM.out]
          clear h82 hb7 HB7 h83
          go_wp2_with fail
          go_roundw
          case rel => exact ⟨k + 1, _, by omega, by go_num, HM8.out, H82.out, HG8.out⟩
          case measure => simp [intOf]; omega
      · have hk64 : k = 64 := by omega
        have HM2 : Hid (gg.m = once g.m (cellsM g.m)) := by
          have := HM.out
          rw [hk64] at this; exact this
        have HAr := Lib.hid (HA5.out.grown HGR.out (by omega))
        have HBr := Lib.hid (below_grown HB5.out HGR.out HB5.out.size (by omega))
        clear hk64
        go_wp2_with fail
        refine (l02Swept_any b 0 B _ g gg wr hs hsg.rng (GAt.of_blk HGb.out) HB.out).mono ?_
        rw [HM2.out]
        rintro e w9 ⟨go, r, rfl, hm9, hr9, hb9⟩
        have HA9 := HAr.out.later hb9
        have HB9 := Lib.hid (HBr.out.trans (hb9.mono HBr.out.size))
        clear hb9
        go_wp2_with (first | (with_reducible refine wpList_new newF ?_) | (with_reducible refine wpList_zero (zeroF _) ?_) | (with_reducible refine wpList_new newG ?_) | (with_reducible refine wpList_zero (zeroG _) ?_) | ((with_reducible refine wpList_putG (g := go) HA9 ?_ ?_ ?_); rfl; rfl))
        intro w10 h101 h102 h103
        go_wp2_with fail
        refine ret_cell3 rfl rfl (loadG h102) rfl ⟨go, r, ?_, ?_, ?_, below_grown HB9.out h103 HB9.out.size (by omega)⟩
        · unfold stepC; rw [HOK.out]; rfl
        · unfold stepM; rw [HOK.out]; exact hm9
        · unfold stepX; rw [HOK.out]; exact hr9

/-- The cells of a colour; all, if it is negative. -/
def colB (z : Int) (k : Nat) : Bool := decide (z < 0) || decide (((k % 8 + k / 8) % 2 : Nat) = z)
def colTo (W H : Int) (z : Int) (k : Nat) : List Nat := (List.range k).filter fun c => hasB W H c && colB z c
theorem colTo_yes {W H z : Int} {k : Nat} (h : hasB W H k = true) (h' : colB z k = true) : colTo W H z (k + 1) = colTo W H z k ++ [k] := by
  unfold colTo; rw [List.range_succ, List.filter_append]; simp [h, h']
theorem colTo_no {W H z : Int} {k : Nat} (h : (hasB W H k && colB z k) = false) : colTo W H z (k + 1) = colTo W H z k := by
  unfold colTo; rw [List.range_succ, List.filter_append]; simp only [List.filter_cons, h]; simp
theorem colTo_all {W H : Int} {k : Nat} : colTo W H (-1) k = cellsTo W H k := by
  unfold colTo cellsTo; congr 1; funext c; simp [colB]

def SwpRelS (m : M) (z : Int) (w1 : World) (B : Nat) (v8 : Value) (wr : World) : Prop :=
  ∃ (k : Nat) (g : G), k ≤ 64 ∧ v8 = .int .i64 k ∧ g.m = swp m (colTo m.wide m.high z k) ∧ Blk wr B (arrG g) 30 ∧ w1.grownBy wr (some B)

def colM (m : M) (z : Int) : M := swp m (colTo m.wide m.high z 64)

set_option maxRecDepth 100000 in
set_option maxHeartbeats 800000 in
theorem l02Sweep_any (b : Nat) (t : TypeId) (z : Int) (g : G) (w : World) (hs : g.Sane) (hg : Blk w b (arrG g) t) :
    Calls Try.prog 157 #[.pointer (some ⟨b, 0, none⟩), .int .i64 z] w (RetGF (swM (colM g.m z)) (swX g.m (colM g.m z)) (swC (colM g.m z)) w) := by
  have hbl : b < w.heap.size := hg.lt
  have hr := hs.rng
  go_enter Try.func157, Try.ntmps157
  go_wp2_with (first | (with_reducible refine wpList_new newF ?_) | (with_reducible refine wpList_zero (zeroF _) ?_) | (with_reducible refine wpList_new newG ?_) | (with_reducible refine wpList_zero (zeroG _) ?_))
  intro A wA hA1 hA2 hA3 hA4
  have h1 := hg.later hA4
  go_wp2_with (first | ((with_reducible refine wpList_getG h1 ?_ ?_); rfl) | (with_reducible refine wpList_new newF ?_) | (with_reducible refine wpList_zero (zeroF _) ?_) | (with_reducible refine wpList_new newG ?_) | (with_reducible refine wpList_zero (zeroG _) ?_))
  intro B wB hB1 hB2 hB3 hB4
  have h2 := h1.later hB4
  go_wp2_with (refine wpList_putG hB3 rfl rfl ?_)
  intro wC hC1 hC2 hC3
  have HGb := Lib.hid (h2.grown hC3 (by omega))
  have HBW := Lib.hid (below_grown (hA4.trans (hB4.mono hA4.size)) hC3 (Nat.le_trans hA4.size hB4.size) (by omega))
  have HA3 := Lib.hid ((hA3.later hB4).grown hC3 (by omega))
  have HB3 := Lib.hid hC2
  have HAB : A < B := by omega
  have HwA : w.heap.size ≤ A := hA1
  clear hA3 hA4 h1 h2 hB3 hB4 hC2 hC3 hg
  go_wp2_with fail
  go_loopw [8] (fun v8 wr => SwpRelS g.m z wC B v8 wr) (fun v8 _ => 64 - (intOf v8).toNat)
  case atStart => exact ⟨0, g, by omega, rfl, rfl, HB3.out, grown_refl _ _⟩
  case round =>
    obtain ⟨k, gg, hk, rfl, hm, hB, hgr⟩ := hrel
    have HM := Lib.hid hm
    have hsg : gg.Sane := M.Sane.g (by rw [hm]; exact swp_sane hs.m _)
    have HB := Lib.hid hB
    have HGR := Lib.hid hgr
    have HGk := Lib.hid (HGb.out.grown hgr (by have := HB3.out.lt; omega))
    clear hm hB hgr
    by_cases hlt : k < 64
    · have k1 : (k : Int) < 64 := by omega
      cases hh : hasB g.wide g.high k
      · have HH := Lib.hid hh
        clear hh
        go_wp2_with (go_at_call 111; refine (l01Is_any b 0 k g _ hlt hr (GAt.of_blk HGk.out)).mono ?_; rw [HH.out]; rintro e w' ⟨rfl, rfl⟩)
        go_roundw
        case rel => exact ⟨k + 1, gg, by omega, by go_num, by rw [colTo_no (W := (G.m g).wide) (H := (G.m g).high) (by rw [show hasB (G.m g).wide (G.m g).high k = false from HH.out]; rfl)]; exact HM.out, HB.out, HGR.out⟩
        case measure => simp [intOf]; omega
      · have HH := Lib.hid hh
        clear hh
        go_wp2_with (go_at_call 111; refine (l01Is_any b 0 k g _ hlt hr (GAt.of_blk HGk.out)).mono ?_; rw [HH.out]; rintro e w' ⟨rfl, rfl⟩)
        · rename_i h1 h2 _ _
          have hcol : colB z k = true := by
            unfold colB
            rcases h2 with h2 | h2
            · omega
            · simp at h2 ⊢; omega
          refine (l02Head_any B 0 k gg wr hlt hsg (GAt.of_blk HB.out)).mono ?_
          rintro e w7 ⟨r, rfl, hr7, hb7⟩
          have HB7 := HB.out.later hb7
          have HR := Lib.hid hr7
          clear hr7
          go_wp2_with (refine wpList_setH HB7 hlt rfl rfl ?_)
          intro w8 h81 h82 h83
          have H82 := Lib.hid h82
          have HG8 := Lib.hid ((grown_trans (grown_trans HGR.out (grown_below hb7)) h83 : wC.grownBy w8 (some B)))
          have HM8 : Hid (G.m { gg with h := upd gg.h k r } = swp g.m (colTo g.m.wide g.m.high z (k + 1))) := by
            show G.m _ = _
            rw [colTo_yes (W := (G.m g).wide) (H := (G.m g).high) HH.out hcol, swp_snoc, m_setH gg hlt, HR.out.out, HM.out]
          clear h82 hb7 HB7 h83
          go_wp2_with fail
          go_roundw
          case rel => exact ⟨k + 1, _, by omega, by go_num, HM8.out, H82.out, HG8.out⟩
          case measure => simp [intOf]; omega
        · rename_i h1 h2
          have hcol : colB z k = false := by
            unfold colB
            have h3 := h2.2
            simp at h3 ⊢; omega
          go_roundw
          case rel => exact ⟨k + 1, gg, by omega, by go_num, by rw [colTo_no (W := (G.m g).wide) (H := (G.m g).high) (by rw [hcol, Bool.and_false])]; exact HM.out, HB.out, HGR.out⟩
          case measure => simp [intOf]; omega
        · have hcol : colB z k = true := by unfold colB; simp; omega
          refine (l02Head_any B 0 k gg wr hlt hsg (GAt.of_blk HB.out)).mono ?_
          rintro e w7 ⟨r, rfl, hr7, hb7⟩
          have HB7 := HB.out.later hb7
          have HR := Lib.hid hr7
          clear hr7
          go_wp2_with (refine wpList_setH HB7 hlt rfl rfl ?_)
          intro w8 h81 h82 h83
          have H82 := Lib.hid h82
          have HG8 := Lib.hid ((grown_trans (grown_trans HGR.out (grown_below hb7)) h83 : wC.grownBy w8 (some B)))
          have HM8 : Hid (G.m { gg with h := upd gg.h k r } = swp g.m (colTo g.m.wide g.m.high z (k + 1))) := by
            show G.m _ = _
            rw [colTo_yes (W := (G.m g).wide) (H := (G.m g).high) HH.out hcol, swp_snoc, m_setH gg hlt, HR.out.out, HM.out]
          clear h82 hb7 HB7 h83
          go_wp2_with fail
          go_roundw
          case rel => exact ⟨k + 1, _, by omega, by go_num, HM8.out, H82.out, HG8.out⟩
          case measure => simp [intOf]; omega
    · have hk64 : k = 64 := by omega
      have HM2 : Hid (gg.m = colM g.m z) := by
        have := HM.out
        rw [hk64] at this; exact this
      have HAr := Lib.hid (HA3.out.grown HGR.out (by omega))
      have HBr := Lib.hid (below_grown HBW.out HGR.out HBW.out.size (by omega))
      clear hk64
      go_wp2_with fail
      refine (l02Swept_any b 0 B _ g gg wr hs hsg.rng (GAt.of_blk HGk.out) HB.out).mono ?_
      rw [HM2.out]
      rintro e w9 ⟨go, r, rfl, hm9, hr9, hb9⟩
      have HA9 := HAr.out.later hb9
      have HB9 := Lib.hid (HBr.out.trans (hb9.mono HBr.out.size))
      clear hb9
      go_wp2_with (first | (with_reducible refine wpList_new newF ?_) | (with_reducible refine wpList_zero (zeroF _) ?_) | (with_reducible refine wpList_new newG ?_) | (with_reducible refine wpList_zero (zeroG _) ?_) | ((with_reducible refine wpList_putG (g := go) HA9 ?_ ?_ ?_); rfl; rfl))
      intro w10 h101 h102 h103
      go_wp2_with fail
      exact ret_cell3 rfl rfl (loadG h102) rfl ⟨go, r, rfl, hm9, hr9, below_grown HB9.out h103 HB9.out.size (by omega)⟩
end Go.Proofs.Ytfcphfdfpjmgiaa
