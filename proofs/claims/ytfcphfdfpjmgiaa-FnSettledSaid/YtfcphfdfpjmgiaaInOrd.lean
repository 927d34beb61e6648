/- All cells settled one by one. -/
import Derived.Test.YtfcphfdfpjmgiaaStepS
namespace Go.Proofs.Ytfcphfdfpjmgiaa
open Go.RowKit

set_option maxRecDepth 100000 in
set_option maxHeartbeats 800000 in
theorem SweepInOrder_any (g : G) (w : World) (hr : g.Rng) (hx : g.Fx) :
    Calls Try.prog 18 #[.agg (arrG g)] w (RetGF (ordM g.m) (ordX g.m) (ordC g.m) w) := by
  cases hok : okI g.m
  · have HOK := Lib.hid hok
    clear hok hx
    go_enter Try.func18, Try.ntmps18
    go_wp2_with (with_reducible refine wpList_box rfl ?_)
    intro b w1 hB1 hB2 hB3 hB4
    go_wp2_with (first | (with_reducible refine wpList_new newF ?_) | (with_reducible refine wpList_zero (zeroF _) ?_) | (with_reducible refine wpList_new newG ?_) | (with_reducible refine wpList_zero (zeroG _) ?_))
    intro A w2 hA1 hA2 hA3 hA4
    go_wp2_with ((with_reducible refine wpList_getG (hB3.later hA4) ?_ ?_); rfl)
    refine (ValidGround_any g w2 hr).mono ?_
    rw [HOK.out]
    rintro e w3 ⟨rfl, hb3⟩
    have HA3 := hA3.later hb3
    have HB := Lib.hid ((hB4.trans (hA4.mono hB4.size)).trans (hb3.mono (Nat.le_trans hB4.size hA4.size)))
    clear hB3 hB4 hA3 hA4 hb3
    go_wp2_with (first | (with_reducible refine wpList_new newF ?_) | (with_reducible refine wpList_zero (zeroF _) ?_) | (with_reducible refine wpList_new newG ?_) | (with_reducible refine wpList_zero (zeroG _) ?_) | ((with_reducible refine wpList_putG (g := G0) HA3 ?_ ?_ ?_); rfl; rfl))
    intro w5 h51 h52 h53
    go_wp2_with fail
    refine ret_cell3 rfl rfl (loadG h52) rfl ⟨G0, 0, ?_, ?_, ?_, ?_⟩
    · unfold ordC; rw [HOK.out]; rfl
    · unfold ordM; rw [HOK.out]; rfl
    · unfold ordX; rw [HOK.out]; exact fb0
    · exact below_grown HB.out h53 HB.out.size (by omega)
  · have HOK := Lib.hid hok
    have hs := sane_of hok hx
    clear hok
    go_enter Try.func18, Try.ntmps18
    go_wp2_with (with_reducible refine wpList_box rfl ?_)
    intro b w1 hB1 hB2 hB3 hB4
    go_wp2_with (first | (with_reducible refine wpList_new newF ?_) | (with_reducible refine wpList_zero (zeroF _) ?_) | (with_reducible refine wpList_new newG ?_) | (with_reducible refine wpList_zero (zeroG _) ?_))
    intro A w2 hA1 hA2 hA3 hA4
    go_wp2_with ((with_reducible refine wpList_getG (hB3.later hA4) ?_ ?_); rfl)
    refine (ValidGround_any g w2 hr).mono ?_
    rw [HOK.out]
    rintro e w3 ⟨rfl, hb3⟩
    have HA3 := hA3.later hb3
    have hG := (hB3.later hA4).later hb3
    have HB := Lib.hid ((hB4.trans (hA4.mono hB4.size)).trans (hb3.mono (Nat.le_trans hB4.size hA4.size)))
    clear hB3 hB4 hA3 hA4 hb3
    go_wp2_with fail
    refine (cells_any b 0 g w3 hr (GAt.of_blk hG)).mono ?_
    rintro e w4 ⟨v, rfl, hown, hb4⟩
    have hG4 := hG.later hb4
    have HA4 := HA3.later hb4
    have HB4 := Lib.hid (HB.out.trans (hb4.mono HB.out.size))
    have hL := listAt_of hown
    clear hG HA3 hb4 hown
    go_wp2_with fail
    refine (sweep_any b _ v (cellsM g.m) g w4 hs (fun c hc => cellsTo_lt hc) (cellsTo_length _ _ _) hL hG4).mono ?_
    rintro e w9 ⟨go, r, rfl, hm9, hr9, hb9⟩
    have HA9 := HA4.later hb9
    have HB9 := Lib.hid (HB4.out.trans (hb9.mono HB4.out.size))
    clear hb9
    go_wp2_with (first | (with_reducible refine wpList_new newF ?_) | (with_reducible refine wpList_zero (zeroF _) ?_) | (with_reducible refine wpList_new newG ?_) | (with_reducible refine wpList_zero (zeroG _) ?_) | ((with_reducible refine wpList_putG (g := go) HA9 ?_ ?_ ?_); rfl; rfl))
    intro w10 h101 h102 h103
    go_wp2_with fail
    refine ret_cell3 rfl rfl (loadG h102) rfl ⟨go, r, ?_, ?_, ?_, below_grown HB9.out h103 HB9.out.size (by omega)⟩
    · unfold ordC; rw [HOK.out]; rfl
    · unfold ordM; rw [HOK.out]; exact hm9
    · unfold ordX; rw [HOK.out]; exact hr9

set_option maxRecDepth 100000 in
set_option maxHeartbeats 800000 in
theorem specSweepInOrder_any (g : G) (w : World) (hr : g.Rng) (hx : g.Fx) :
    Calls Try.prog 66 #[.agg (arrG g)] w (RetGF (ordM g.m) (ordX g.m) (ordC g.m) w) := by
  cases hok : okI g.m
  · have HOK := Lib.hid hok
    clear hok hx
    go_enter Try.func66, Try.ntmps66
    go_wp2_with (with_reducible refine wpList_box rfl ?_)
    intro b w1 hB1 hB2 hB3 hB4
    go_wp2_with (first | (with_reducible refine wpList_new newF ?_) | (with_reducible refine wpList_zero (zeroF _) ?_) | (with_reducible refine wpList_new newG ?_) | (with_reducible refine wpList_zero (zeroG _) ?_))
    intro A w2 hA1 hA2 hA3 hA4
    go_wp2_with fail
    refine (l01Ok_any b 0 g w2 hr (GAt.of_blk (hB3.later hA4))).mono ?_
    rw [HOK.out]
    rintro e w3 ⟨rfl, hb3⟩
    have HA3 := hA3.later hb3
    have HB := Lib.hid ((hB4.trans (hA4.mono hB4.size)).trans (hb3.mono (Nat.le_trans hB4.size hA4.size)))
    clear hB3 hB4 hA3 hA4 hb3
    go_wp2_with (first | (with_reducible refine wpList_new newF ?_) | (with_reducible refine wpList_zero (zeroF _) ?_) | (with_reducible refine wpList_new newG ?_) | (with_reducible refine wpList_zero (zeroG _) ?_) | ((with_reducible refine wpList_putG (g := G0) HA3 ?_ ?_ ?_); rfl; rfl))
    intro w5 h51 h52 h53
    go_wp2_with fail
    refine ret_cell3 rfl rfl (loadG h52) rfl ⟨G0, 0, ?_, ?_, ?_, ?_⟩
    · unfold ordC; rw [HOK.out]; rfl
    · unfold ordM; rw [HOK.out]; rfl
    · unfold ordX; rw [HOK.out]; exact fb0
    · exact below_grown HB.out h53 HB.out.size (by omega)
  · have HOK := Lib.hid hok
    have hs := sane_of hok hx
    clear hok
    go_enter Try.func66, Try.ntmps66
    go_wp2_with (with_reducible refine wpList_box rfl ?_)
    intro b w1 hB1 hB2 hB3 hB4
    go_wp2_with (first | (with_reducible refine wpList_new newF ?_) | (with_reducible refine wpList_zero (zeroF _) ?_) | (with_reducible refine wpList_new newG ?_) | (with_reducible refine wpList_zero (zeroG _) ?_))
    intro A w2 hA1 hA2 hA3 hA4
    go_wp2_with fail
    refine (l01Ok_any b 0 g w2 hr (GAt.of_blk (hB3.later hA4))).mono ?_
    rw [HOK.out]
    rintro e w3 ⟨rfl, hb3⟩
    have HA3 := hA3.later hb3
    have hG := (hB3.later hA4).later hb3
    have HB := Lib.hid ((hB4.trans (hA4.mono hB4.size)).trans (hb3.mono (Nat.le_trans hB4.size hA4.size)))
    clear hB3 hB4 hA3 hA4 hb3
    have HA4 := HA3
    have HB4 := HB
    go_wp2_with fail
    refine (l02Sweep_any b _ (-1) g w3 hs hG).mono ?_
    rw [show colM g.m (-1) = swp g.m (cellsM g.m) by unfold colM cellsM; rw [colTo_all]]
    rintro e w9 ⟨go, r, rfl, hm9, hr9, hb9⟩
    have HA9 := HA4.later hb9
    have HB9 := Lib.hid (HB4.out.trans (hb9.mono HB4.out.size))
    clear hb9
    go_wp2_with (first | (with_reducible refine wpList_new newF ?_) | (with_reducible refine wpList_zero (zeroF _) ?_) | (with_reducible refine wpList_new newG ?_) | (with_reducible refine wpList_zero (zeroG _) ?_) | ((with_reducible refine wpList_putG (g := go) HA9 ?_ ?_ ?_); rfl; rfl))
    intro w10 h101 h102 h103
    go_wp2_with fail
    refine ret_cell3 rfl rfl (loadG h102) rfl ⟨go, r, ?_, ?_, ?_, below_grown HB9.out h103 HB9.out.size (by omega)⟩
    · unfold ordC; rw [HOK.out]; rfl
    · unfold ordM; rw [HOK.out]; exact hm9
    · unfold ordX; rw [HOK.out]; exact hr9
end Go.Proofs.Ytfcphfdfpjmgiaa
