/- Settling a ground: the walks and the law's walk. -/
import Derived.Test.YtllblebicdeieaaSettle
namespace Go.Proofs.Ytllblebicdeieaa
open Go.RowKit

def settR (m : M) (x : F) (most : Int) : M × Int × Int :=
  if okI m then (if amount x && (decide (0 ≤ most) && decide (most ≤ 2000)) then setl x most.toNat 0 m else (G0.m, 0, 2)) else (G0.m, 0, 1)

set_option maxHeartbeats 400000 in
theorem settleOk_any (x : Nat) (most : Int) (w : World) :
    Calls Try.prog 80 #[.float .f32 x, .int .i64 most] w (RetB (amount (fb x) && (decide (0 ≤ most) && decide (most ≤ 2000))) w) := by
  cases ham : amount (fb x)
  · have HAM := Lib.hid ham
    clear ham
    go_enter Try.func80, Try.ntmps80
    go_wp2_with (go_at_call 52; refine (isAmount_any x _).mono ?_; rw [HAM.out]; rintro e w1 ⟨rfl, hb1⟩)
    go_ret
    exact ⟨rfl, by assumption⟩
  · have HAM := Lib.hid ham
    clear ham
    go_enter Try.func80, Try.ntmps80
    go_wp2_with (first | (go_at_call 52; refine (isAmount_any x _).mono ?_; rw [HAM.out]; rintro e w1 ⟨rfl, hb1⟩) | (go_at_call 77; refine (in_any _ _ _ _).mono ?_; rintro e w' ⟨rfl, rfl⟩))
    go_ret
    exact ⟨rfl, by assumption⟩

set_option maxRecDepth 100000 in
set_option maxHeartbeats 1600000 in
theorem SettleGround_any (g : G) (x : Nat) (most : Int) (w : World) (hr : g.Rng) (hx : g.Fx) :
    Calls Try.prog 43 #[.agg (arrG g), .float .f32 x, .int .i64 most] w (RetGII (settR g.m (fb x) most) w) := by
  cases hok : okI g.m
  · have HOK := Lib.hid hok
    clear hok hx
    go_enter Try.func43, Try.ntmps43
    go_wp2_with (with_reducible refine wpList_box rfl ?_)
    intro b w1 hB1 hB2 hB3 hB4
    go_wp2_with (first | (with_reducible refine wpList_new newF ?_) | (with_reducible refine wpList_zero (zeroF _) ?_) | (with_reducible refine wpList_new newG ?_) | (with_reducible refine wpList_zero (zeroG _) ?_))
    intro A w2 hA1 hA2 hA3 hA4
    go_wp2_with ((with_reducible refine wpList_getG (hB3.later hA4) ?_ ?_); rfl)
    refine (ValidGround_any g w2 hr).mono ?_
    rw [HOK.out]
    rintro e w3 ⟨rfl, hb3⟩
    have HA3 := hA3.later hb3
    have HB := Lib.hid ((hB4.trans (hA4.mono hB4.size)).trans (hb3.mono (Nat.le_trans hB4.size hA4.size)))
    clear hB3 hB4 hA3 hA4 hb3
    go_wp2_with (first | (with_reducible refine wpList_new newF ?_) | (with_reducible refine wpList_zero (zeroF _) ?_) | (with_reducible refine wpList_new newG ?_) | (with_reducible refine wpList_zero (zeroG _) ?_) | ((with_reducible refine wpList_putG (g := G0) HA3 ?_ ?_ ?_); rfl; rfl))
    intro w5 h51 h52 h53
    go_wp2_with fail
    refine ret_cell3 rfl rfl (loadG h52) rfl ⟨G0, ?_, ?_, below_grown HB.out h53 HB.out.size (by omega)⟩
    · unfold settR; rw [HOK.out]; rfl
    · unfold settR; rw [HOK.out]; rfl
  · have HOK := Lib.hid hok
    have hs := sane_of hok hx
    clear hok
    cases hso : (amount (fb x) && (decide (0 ≤ most) && decide (most ≤ 2000)))
    · have HSO := Lib.hid hso
      clear hso hs
      go_enter Try.func43, Try.ntmps43
      go_wp2_with (with_reducible refine wpList_box rfl ?_)
      intro b w1 hB1 hB2 hB3 hB4
      go_wp2_with (first | (with_reducible refine wpList_new newF ?_) | (with_reducible refine wpList_zero (zeroF _) ?_) | (with_reducible refine wpList_new newG ?_) | (with_reducible refine wpList_zero (zeroG _) ?_))
      intro A w2 hA1 hA2 hA3 hA4
      go_wp2_with ((with_reducible refine wpList_getG (hB3.later hA4) ?_ ?_); rfl)
      refine (ValidGround_any g w2 hr).mono ?_
      rw [HOK.out]
      rintro e w3 ⟨rfl, hb3⟩
      have HA3 := hA3.later hb3
      have hG := (hB3.later hA4).later hb3
      have HB := Lib.hid ((hB4.trans (hA4.mono hB4.size)).trans (hb3.mono (Nat.le_trans hB4.size hA4.size)))
      clear hB3 hB4 hA3 hA4 hb3
      go_wp2_with fail
      refine (settleOk_any x _ w3).mono ?_
      rw [HSO.out]
      rintro e w4 ⟨rfl, hb4⟩
      have HA4 := HA3.later hb4
      have HB4 := Lib.hid (HB.out.trans (hb4.mono HB.out.size))
      clear hb4 HA3 hG
      go_wp2_with (first | (with_reducible refine wpList_new newF ?_) | (with_reducible refine wpList_zero (zeroF _) ?_) | (with_reducible refine wpList_new newG ?_) | (with_reducible refine wpList_zero (zeroG _) ?_) | ((with_reducible refine wpList_putG (g := G0) HA4 ?_ ?_ ?_); rfl; rfl))
      intro w5 h51 h52 h53
      go_wp2_with fail
      refine ret_cell3 rfl rfl (loadG h52) rfl ⟨G0, ?_, ?_, below_grown HB4.out h53 HB4.out.size (by omega)⟩
      · unfold settR; rw [HOK.out, HSO.out]; rfl
      · unfold settR; rw [HOK.out, HSO.out]; rfl
    · have HSO := Lib.hid hso
      simp only [Bool.and_eq_true, decide_eq_true_eq] at hso
      obtain ⟨_, m0, m1⟩ := hso
      obtain ⟨k, rfl⟩ : ∃ k : Nat, most = k := ⟨most.toNat, by omega⟩
      have hk : k ≤ 2000 := by omega
      go_enter Try.func43, Try.ntmps43
      go_wp2_with (with_reducible refine wpList_box rfl ?_)
      intro b w1 hB1 hB2 hB3 hB4
      go_wp2_with (first | (with_reducible refine wpList_new newF ?_) | (with_reducible refine wpList_zero (zeroF _) ?_) | (with_reducible refine wpList_new newG ?_) | (with_reducible refine wpList_zero (zeroG _) ?_))
      intro A w2 hA1 hA2 hA3 hA4
      go_wp2_with ((with_reducible refine wpList_getG (hB3.later hA4) ?_ ?_); rfl)
      refine (ValidGround_any g w2 hr).mono ?_
      rw [HOK.out]
      rintro e w3 ⟨rfl, hb3⟩
      have HA3 := hA3.later hb3
      have hG := (hB3.later hA4).later hb3
      have HB := Lib.hid ((hB4.trans (hA4.mono hB4.size)).trans (hb3.mono (Nat.le_trans hB4.size hA4.size)))
      clear hB3 hB4 hA3 hA4 hb3
      go_wp2_with fail
      refine (settleOk_any x _ w3).mono ?_
      rw [HSO.out]
      rintro e w4 ⟨rfl, hb4⟩
      have HA4 := HA3.later hb4
      have hG4 := hG.later hb4
      have HB4 := Lib.hid (HB.out.trans (hb4.mono HB.out.size))
      clear hb4 HA3 hG
      go_wp2_with ((with_reducible refine wpList_getG hG4 ?_ ?_); rfl)
      refine (settle_any g x k w4 hs hk).mono ?_
      rintro e w5 ⟨go, rfl, hm5, hb5⟩
      have HA5 := HA4.later hb5
      have HB5 := Lib.hid (HB4.out.trans (hb5.mono HB4.out.size))
      clear hb5 HA4
      go_wp2_with (first | (with_reducible refine wpList_new newF ?_) | (with_reducible refine wpList_zero (zeroF _) ?_) | (with_reducible refine wpList_new newG ?_) | (with_reducible refine wpList_zero (zeroG _) ?_) | ((with_reducible refine wpList_putG (g := go) HA5 ?_ ?_ ?_); rfl; rfl))
      intro w6 h61 h62 h63
      go_wp2_with fail
      refine ret_cell3 rfl rfl (loadG h62) rfl ⟨go, ?_, ?_, below_grown HB5.out h63 HB5.out.size (by omega)⟩
      · unfold settR; rw [HOK.out, HSO.out]; rfl
      · unfold settR; rw [HOK.out, HSO.out]; exact hm5

set_option maxRecDepth 100000 in
set_option maxHeartbeats 1600000 in
theorem specSettleGround_any (g : G) (x : Nat) (most : Int) (w : World) (hr : g.Rng) (hx : g.Fx) :
    Calls Try.prog 42 #[.agg (arrG g), .float .f32 x, .int .i64 most] w (RetGII (settR g.m (fb x) most) w) := by
  cases hok : okI g.m
  · have HOK := Lib.hid hok
    clear hok hx
    go_enter Try.func42, Try.ntmps42
    go_wp2_with (with_reducible refine wpList_box rfl ?_)
    intro b w1 hB1 hB2 hB3 hB4
    go_wp2_with (first | (with_reducible refine wpList_new newF ?_) | (with_reducible refine wpList_zero (zeroF _) ?_) | (with_reducible refine wpList_new newG ?_) | (with_reducible refine wpList_zero (zeroG _) ?_))
    intro A w2 hA1 hA2 hA3 hA4
    go_wp2_with fail
    refine (l01Ok_any b 0 g w2 hr (GAt.of_blk (hB3.later hA4))).mono ?_
    rw [HOK.out]
    rintro e w3 ⟨rfl, hb3⟩
    have HA3 := hA3.later hb3
    have HB := Lib.hid ((hB4.trans (hA4.mono hB4.size)).trans (hb3.mono (Nat.le_trans hB4.size hA4.size)))
    clear hB3 hB4 hA3 hA4 hb3
    go_wp2_with (first | (with_reducible refine wpList_new newF ?_) | (with_reducible refine wpList_zero (zeroF _) ?_) | (with_reducible refine wpList_new newG ?_) | (with_reducible refine wpList_zero (zeroG _) ?_) | ((with_reducible refine wpList_putG (g := G0) HA3 ?_ ?_ ?_); rfl; rfl))
    intro w5 h51 h52 h53
    go_wp2_with fail
    refine ret_cell3 rfl rfl (loadG h52) rfl ⟨G0, ?_, ?_, below_grown HB.out h53 HB.out.size (by omega)⟩
    · unfold settR; rw [HOK.out]; rfl
    · unfold settR; rw [HOK.out]; rfl
  · have HOK := Lib.hid hok
    have hs := sane_of hok hx
    clear hok
    cases ham : amount (fb x)
    · have HAM := Lib.hid ham
      clear ham hs
      go_enter Try.func42, Try.ntmps42
      go_wp2_with (with_reducible refine wpList_box rfl ?_)
      intro b w1 hB1 hB2 hB3 hB4
      go_wp2_with (first | (with_reducible refine wpList_new newF ?_) | (with_reducible refine wpList_zero (zeroF _) ?_) | (with_reducible refine wpList_new newG ?_) | (with_reducible refine wpList_zero (zeroG _) ?_))
      intro A w2 hA1 hA2 hA3 hA4
      go_wp2_with fail
      refine (l01Ok_any b 0 g w2 hr (GAt.of_blk (hB3.later hA4))).mono ?_
      rw [HOK.out]
      rintro e w3 ⟨rfl, hb3⟩
      have HA3 := hA3.later hb3
      have hG := (hB3.later hA4).later hb3
      have HB := Lib.hid ((hB4.trans (hA4.mono hB4.size)).trans (hb3.mono (Nat.le_trans hB4.size hA4.size)))
      clear hB3 hB4 hA3 hA4 hb3
      go_wp2_with fail
      refine (l02Within_any _ w3).mono ?_
      rw [HAM.out]
      rintro e w4 ⟨rfl, hb4⟩
      have HA4 := HA3.later hb4
      have HB4 := Lib.hid (HB.out.trans (hb4.mono HB.out.size))
      clear hb4 HA3 hG
      go_wp2_with (first | (with_reducible refine wpList_new newF ?_) | (with_reducible refine wpList_zero (zeroF _) ?_) | (with_reducible refine wpList_new newG ?_) | (with_reducible refine wpList_zero (zeroG _) ?_) | ((with_reducible refine wpList_putG (g := G0) HA4 ?_ ?_ ?_); rfl; rfl))
      intro w5 h51 h52 h53
      go_wp2_with fail
      refine ret_cell3 rfl rfl (loadG h52) rfl ⟨G0, ?_, ?_, below_grown HB4.out h53 HB4.out.size (by omega)⟩
      · unfold settR; rw [HOK.out, HAM.out]; rfl
      · unfold settR; rw [HOK.out, HAM.out]; rfl
    · have HAM := Lib.hid ham
      clear ham
      by_cases hin : 0 ≤ most ∧ most ≤ 2000
      · obtain ⟨m0, m1⟩ := hin
        have HSO : Hid ((amount (fb x) && (decide (0 ≤ most) && decide (most ≤ 2000))) = true) := by show _ = _; rw [HAM.out]; simp; omega
        obtain ⟨k, rfl⟩ : ∃ k : Nat, most = k := ⟨most.toNat, by omega⟩
        have hk : k ≤ 2000 := by omega
        go_enter Try.func42, Try.ntmps42
        go_wp2_with (with_reducible refine wpList_box rfl ?_)
        intro b w1 hB1 hB2 hB3 hB4
        go_wp2_with (first | (with_reducible refine wpList_new newF ?_) | (with_reducible refine wpList_zero (zeroF _) ?_) | (with_reducible refine wpList_new newG ?_) | (with_reducible refine wpList_zero (zeroG _) ?_))
        intro A w2 hA1 hA2 hA3 hA4
        go_wp2_with fail
        refine (l01Ok_any b 0 g w2 hr (GAt.of_blk (hB3.later hA4))).mono ?_
        rw [HOK.out]
        rintro e w3 ⟨rfl, hb3⟩
        have HA3 := hA3.later hb3
        have hG := (hB3.later hA4).later hb3
        have HB := Lib.hid ((hB4.trans (hA4.mono hB4.size)).trans (hb3.mono (Nat.le_trans hB4.size hA4.size)))
        clear hB3 hB4 hA3 hA4 hb3
        go_wp2_with fail
        refine (l02Within_any _ w3).mono ?_
        rw [HAM.out]
        rintro e w4 ⟨rfl, hb4⟩
        have HA4 := HA3.later hb4
        have hG4 := hG.later hb4
        have HB4 := Lib.hid (HB.out.trans (hb4.mono HB.out.size))
        clear hb4 HA3 hG
        go_wp2_with (go_at_call 76; refine (l00In_yes _ _ _ _ (by omega) (by omega)).mono ?_; rintro e w' ⟨rfl, rfl⟩)
        refine (l02Settle_any b _ g x k w4 hs hG4 hk).mono ?_
        rintro e w5 ⟨go, rfl, hm5, hb5⟩
        have HA5 := HA4.later hb5
        have HB5 := Lib.hid (HB4.out.trans (hb5.mono HB4.out.size))
        clear hb5 hG4 HA4
        go_wp2_with (first | (with_reducible refine wpList_new newF ?_) | (with_reducible refine wpList_zero (zeroF _) ?_) | (with_reducible refine wpList_new newG ?_) | (with_reducible refine wpList_zero (zeroG _) ?_) | ((with_reducible refine wpList_putG (g := go) HA5 ?_ ?_ ?_); rfl; rfl))
        intro w6 h61 h62 h63
        go_wp2_with fail
        refine ret_cell3 rfl rfl (loadG h62) rfl ⟨go, ?_, ?_, below_grown HB5.out h63 HB5.out.size (by omega)⟩
        · unfold settR; rw [HOK.out, HSO.out]; rfl
        · unfold settR; rw [HOK.out, HSO.out]; exact hm5
      · have HSO : Hid ((amount (fb x) && (decide (0 ≤ most) && decide (most ≤ 2000))) = false) := by show _ = _; rw [HAM.out]; simp; omega
        clear hs
        go_enter Try.func42, Try.ntmps42
        go_wp2_with (with_reducible refine wpList_box rfl ?_)
        intro b w1 hB1 hB2 hB3 hB4
        go_wp2_with (first | (with_reducible refine wpList_new newF ?_) | (with_reducible refine wpList_zero (zeroF _) ?_) | (with_reducible refine wpList_new newG ?_) | (with_reducible refine wpList_zero (zeroG _) ?_))
        intro A w2 hA1 hA2 hA3 hA4
        go_wp2_with fail
        refine (l01Ok_any b 0 g w2 hr (GAt.of_blk (hB3.later hA4))).mono ?_
        rw [HOK.out]
        rintro e w3 ⟨rfl, hb3⟩
        have HA3 := hA3.later hb3
        have hG := (hB3.later hA4).later hb3
        have HB := Lib.hid ((hB4.trans (hA4.mono hB4.size)).trans (hb3.mono (Nat.le_trans hB4.size hA4.size)))
        clear hB3 hB4 hA3 hA4 hb3
        go_wp2_with fail
        refine (l02Within_any _ w3).mono ?_
        rw [HAM.out]
        rintro e w4 ⟨rfl, hb4⟩
        have HA4 := HA3.later hb4
        have HB4 := Lib.hid (HB.out.trans (hb4.mono HB.out.size))
        clear hb4 HA3 hG
        go_wp2_with (first | (go_at_call 76; refine (l00In_no _ _ _ _ hin).mono ?_; rintro e w' ⟨rfl, rfl⟩) | (with_reducible refine wpList_new newF ?_) | (with_reducible refine wpList_zero (zeroF _) ?_) | (with_reducible refine wpList_new newG ?_) | (with_reducible refine wpList_zero (zeroG _) ?_) | ((with_reducible refine wpList_putG (g := G0) HA4 ?_ ?_ ?_); rfl; rfl))
        intro w5 h51 h52 h53
        go_wp2_with fail
        refine ret_cell3 rfl rfl (loadG h52) rfl ⟨G0, ?_, ?_, below_grown HB4.out h53 HB4.out.size (by omega)⟩
        · unfold settR; rw [HOK.out, HSO.out]; rfl
        · unfold settR; rw [HOK.out, HSO.out]; rfl

set_option maxRecDepth 100000 in
set_option maxHeartbeats 800000 in
theorem law_SettleGround (g : G) (x : Nat) (most : Int) (w : World) (hr : g.Rng) (hx : g.Fx) :
    Calls Try.prog 13 #[.agg (arrG g), .float .f32 x, .int .i64 most] w (RetB true w) := by
  go_enter Try.func13, Try.ntmps13
  go_wp2_with (with_reducible refine wpList_box rfl ?_)
  intro A wA hA1 hA2 hA3 hA4
  go_wp2_with ((with_reducible refine wpList_getL hA3 ?_ ?_); rfl)
  refine (toGround_any g wA).mono ?_
  rintro e w1 ⟨rfl, hb1⟩
  go_wp2_with fail
  refine (specSettleGround_any g x most w1 hr hx).mono ?_
  rintro e w2 ⟨go, rfl, hm, hb2⟩
  have HA2 := (hA3.later hb1).later hb2
  have HB2 := Lib.hid ((hA4.trans (hb1.mono hA4.size)).trans (hb2.mono (Nat.le_trans hA4.size hb1.size)))
  clear hA3 hA4 hb1 hb2
  go_wp2_with (first | (with_reducible refine wpList_new newF ?_) | (with_reducible refine wpList_zero (zeroF _) ?_) | (with_reducible refine wpList_new newG ?_) | (with_reducible refine wpList_zero (zeroG _) ?_))
  intro B w3 hB1 hB2 hB3 hB4
  have HA3 := HA2.later hB4
  go_wp2_with ((with_reducible refine wpList_putG (g := go) hB3 ?_ ?_ ?_); rfl; rfl)
  intro w4 s4 b4 k4
  have HA4 := HA3.grown k4 (by have := HA2.lt; omega)
  have HB4 := Lib.hid (below_grown (HB2.out.trans (hB4.mono HB2.out.size)) k4 (Nat.le_trans HB2.out.size hB4.size) (by have := HB2.out.size; omega))
  clear hB3 hB4 HA2 HA3 k4
  go_wp2_with ((with_reducible refine wpList_getL HA4 ?_ ?_); rfl)
  refine (toGround_any g w4).mono ?_
  rintro e w5 ⟨rfl, hb5⟩
  go_wp2_with fail
  refine (SettleGround_any g x most w5 hr hx).mono ?_
  rintro e w6 ⟨go', rfl, hm', hb6⟩
  have HB6 := Lib.hid ((HB4.out.trans (hb5.mono HB4.out.size)).trans (hb6.mono (Nat.le_trans HB4.out.size hb5.size)))
  have BB6 := (b4.later hb5).later hb6
  clear hb5 hb6 b4 HA4
  go_wp2_with (first | (with_reducible refine wpList_new newF ?_) | (with_reducible refine wpList_zero (zeroF _) ?_) | (with_reducible refine wpList_new newG ?_) | (with_reducible refine wpList_zero (zeroG _) ?_))
  intro C w7 hC1 hC2 hC3 hC4
  have BB7 := BB6.later hC4
  go_wp2_with ((with_reducible refine wpList_putG (g := go') hC3 ?_ ?_ ?_); rfl; rfl)
  intro w8 s8 b8 k8
  have BB8 := BB7.grown k8 (by have := BB6.lt; omega)
  have HB8 := Lib.hid (below_grown (HB6.out.trans (hC4.mono HB6.out.size)) k8 (Nat.le_trans HB6.out.size hC4.size) (by have := HB6.out.size; omega))
  have HE := Lib.hid (hm'.trans hm.symm)
  clear hC3 hC4 BB6 BB7 k8 hm hm'
  go_wp2_with (first | ((with_reducible refine wpList_getG b8 ?_ ?_); rfl) | ((with_reducible refine wpList_getG BB8 ?_ ?_); rfl))
  refine (eqGround_any go' go w8 HE.out).mono ?_
  rintro e w9 ⟨rfl, hb9⟩
  have HB9 := Lib.hid (HB8.out.trans (hb9.mono HB8.out.size))
  clear hb9 b8 BB8
  go_wp2_with fail
  go_ret
  exact ⟨rfl, HB9.out⟩
end Go.Proofs.Ytllblebicdeieaa
