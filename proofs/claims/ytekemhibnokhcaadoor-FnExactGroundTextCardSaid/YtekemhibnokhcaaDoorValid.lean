/- Whether a ground is valid: the program's test. -/
import Derived.Test.YtekemhibnokhcaaDoorBits
namespace Go.Proofs.YtekemhibnokhcaaDoor
open Go.RowKit

def sized (m : M) : Prop := (2 ≤ m.wide ∧ m.wide ≤ 8) ∧ (2 ≤ m.high ∧ m.high ≤ 8)
instance (m : M) : Decidable (sized m) := by unfold sized; infer_instance
def fieldsI (m : M) : Bool := fieldTo m.wide m.high amount m.c 64 && fieldTo m.wide m.high plain m.g 64 && fieldTo m.wide m.high plain m.h 64
def fixedOk (m : M) : Bool := (m.fixed != 0) && (bits BinOp.andNot IntKind.u64 m.fixed (bitsL (cellsM m)) == 0)
/-- A ground is valid. -/
def okI (m : M) : Bool := decide (sized m) && fieldsI m && fixedOk m

theorem sized_of {m : M} (h : okI m = true) : sized m := by
  unfold okI at h
  simp only [Bool.and_eq_true, decide_eq_true_eq] at h
  exact h.1.1
theorem rng_of {g : G} (h : sized g.m) : g.Rng := ⟨⟨by have := h.1.1; show -128 ≤ g.m.wide; omega, by have := h.1.2; show g.m.wide ≤ 127; omega⟩, ⟨by have := h.2.1; show -128 ≤ g.m.high; omega, by have := h.2.2; show g.m.high ≤ 127; omega⟩⟩


set_option maxRecDepth 100000 in
set_option maxHeartbeats 1600000 in
theorem ValidGround_any (g : G) (w : World) (hrng : g.Rng) :
    Calls Tryd.prog 24 #[.agg (arrG g)] w (RetB (okI g.m) w) := by
  obtain ⟨⟨r0, r1⟩, ⟨r2, r3⟩⟩ := hrng
  by_cases hW : 2 ≤ g.wide ∧ g.wide ≤ 8
  rotate_left
  · have hok : okI g.m = false := by unfold okI; rw [decide_eq_false (fun h => hW h.1)]; rfl
    rw [hok]
    have HW := Lib.hid hW
    clear hok hW
    go_enter Tryd.func24, Tryd.ntmps24
    go_wp2_with (with_reducible refine wpList_box rfl ?_)
    intro B w1 hB1 hB2 hB3 hB4
    have hg := GAt.of_blk hB3
    have h0 := hg.wide
    go_wp2_with fail
    refine (in_no _ _ _ _ HW.out).mono ?_
    rintro e w' ⟨rfl, rfl⟩
    go_wp2_with fail
    go_ret
    exact ⟨rfl, hB4⟩
  by_cases hH : 2 ≤ g.high ∧ g.high ≤ 8
  rotate_left
  · have hok : okI g.m = false := by unfold okI; rw [decide_eq_false (fun h => hH h.2)]; rfl
    rw [hok]
    have HH := Lib.hid hH
    obtain ⟨q0, q1⟩ := hW
    clear hok hH
    go_enter Tryd.func24, Tryd.ntmps24
    go_wp2_with (with_reducible refine wpList_box rfl ?_)
    intro B w1 hB1 hB2 hB3 hB4
    have hg := GAt.of_blk hB3
    have h0 := hg.wide
    have h1 := hg.high
    go_wp2_with fail
    refine (in_yes _ _ _ _ q0 q1).mono ?_
    rintro e w' ⟨rfl, rfl⟩
    go_wp2_with fail
    refine (in_no _ _ _ _ HH.out).mono ?_
    rintro e w' ⟨rfl, rfl⟩
    go_wp2_with fail
    go_ret
    exact ⟨rfl, hB4⟩
  have hsz : sized g.m := ⟨hW, hH⟩
  have hr := rng_of hsz
  have hok : okI g.m = (fieldsI g.m && fixedOk g.m) := by unfold okI; rw [decide_eq_true hsz]; rfl
  rw [hok]
  obtain ⟨q0, q1⟩ := hW
  obtain ⟨q2, q3⟩ := hH
  clear hok hsz
  go_enter Tryd.func24, Tryd.ntmps24
  go_wp2_with (with_reducible refine wpList_box rfl ?_)
  intro B w1 hB1 hB2 hB3 hB4
  have hg := GAt.of_blk hB3
  have h0 := hg.wide
  have h1 := hg.high
  go_wp2_with fail
  refine (in_yes _ _ _ _ q0 q1).mono ?_
  rintro e w' ⟨rfl, rfl⟩
  go_wp2_with fail
  refine (in_yes _ _ _ _ q2 q3).mono ?_
  rintro e w' ⟨rfl, rfl⟩
  go_wp2_with fail
  cases e1 : fieldTo g.wide g.high amount (fm g.c) 64
  · have E1 := Lib.hid e1
    clear e1
    refine (fieldOk_amount B 0 B 2 g g.c w1 hr hg hg.fc).mono ?_
    rw [E1.out]
    rintro e w2 ⟨rfl, hb2⟩
    have HB2 := Lib.hid (hB4.trans (hb2.mono hB4.size))
    clear hb2 h0 h1 hg hB3 hB4
    go_wp2_with fail
    go_quiet (fail)
    go_wp2_with fail
    go_ret
    exact ⟨ret_bool (by simp [fieldsI, G.m, E1.out]), below_drawn HB2.out _⟩
  · have E1 := Lib.hid e1
    clear e1
    refine (fieldOk_amount B 0 B 2 g g.c w1 hr hg hg.fc).mono ?_
    rw [E1.out]
    rintro e w2 ⟨rfl, hb2⟩
    have HB2 := Lib.hid (hB4.trans (hb2.mono hB4.size))
    have hg2 := hg.below hb2
    clear hb2 h0 h1 hg hB3 hB4
    go_wp2_with fail
    cases e2 : fieldTo g.wide g.high plain (fm g.g) 64
    · have E2 := Lib.hid e2
      clear e2
      refine (fieldOk_plain B 0 B 66 g g.g w2 hr hg2 hg2.fg).mono ?_
      rw [E2.out]
      rintro e w3 ⟨rfl, hb3⟩
      have HB3 := Lib.hid (HB2.out.trans (hb3.mono HB2.out.size))
      clear hb3 hg2
      go_wp2_with fail
      go_quiet (fail)
      go_wp2_with fail
      go_ret
      exact ⟨ret_bool (by simp [fieldsI, G.m, E2.out]), below_drawn HB3.out _⟩
    · have E2 := Lib.hid e2
      clear e2
      refine (fieldOk_plain B 0 B 66 g g.g w2 hr hg2 hg2.fg).mono ?_
      rw [E2.out]
      rintro e w3 ⟨rfl, hb3⟩
      have HB3 := Lib.hid (HB2.out.trans (hb3.mono HB2.out.size))
      have hg3 := hg2.below hb3
      clear hb3 hg2
      go_wp2_with fail
      cases e3 : fieldTo g.wide g.high plain (fm g.h) 64
      · have E3 := Lib.hid e3
        clear e3
        refine (fieldOk_plain B 0 B 130 g g.h w3 hr hg3 hg3.fh).mono ?_
        rw [E3.out]
        rintro e w4 ⟨rfl, hb4⟩
        have HB4 := Lib.hid (HB3.out.trans (hb4.mono HB3.out.size))
        clear hb4 hg3
        go_wp2_with fail
        go_quiet (fail)
        go_wp2_with fail
        go_ret
        exact ⟨ret_bool (by simp [fieldsI, G.m, E3.out]), below_drawn HB4.out _⟩
      · have E3 := Lib.hid e3
        clear e3
        refine (fieldOk_plain B 0 B 130 g g.h w3 hr hg3 hg3.fh).mono ?_
        rw [E3.out]
        rintro e w4 ⟨rfl, hb4⟩
        have HB4 := Lib.hid (HB3.out.trans (hb4.mono HB3.out.size))
        have hg4 := hg3.below hb4
        have HG4 := Lib.hid hg4
        have h0 := hg4.fixed
        clear hb4 hg3 hg4
        cases e4 : (g.fixed != 0)
        · have E4 := Lib.hid e4
          go_wp2_with fail
          go_quiet (fail)
          go_wp2_with fail
          go_ret
          exact ⟨ret_bool (by simp [fixedOk, G.m, E4.out]), below_drawn HB4.out _⟩
        · have E4 := Lib.hid e4
          have hc := fun x => ext_cell w4 x h0
          clear h0
          go_wp2_with fail
          refine wp_soft (SV (.int .u64 (bitsL (cellsM g.m)))) (by kernel_rfl) (by kernel_rfl) ?_
          repeat (first | (refine soft_step (fun K hK => ?_); go_simp; (try go_bits); refine hK _ ?_; clear hK K) | (refine soft_step (fun K hK => ?_); go_simp; refine ⟨_, _, ⟨rfl, rfl⟩, fun x => (bits_any B 0 g _ hr (HG4.out.below (ext_below _ x))).mono ?_, ?_⟩; (rintro e w1 ⟨he, hb⟩; exact ⟨_, he, rfl, hb⟩); rintro v rfl; refine hK _ ?_; clear hK K))
          refine soft_nil ?_
          rintro w5 hw5
          have HB5 := Lib.hid (HB4.out.trans (hw5.below.mono HB4.out.size))
          clear hw5
          go_wp2_with fail
          go_ret
          exact ⟨ret_bool (by simp [fieldsI, fixedOk, G.m, E1.out, E2.out, E3.out, E4.out]), HB5.out⟩
end Go.Proofs.YtekemhibnokhcaaDoor
