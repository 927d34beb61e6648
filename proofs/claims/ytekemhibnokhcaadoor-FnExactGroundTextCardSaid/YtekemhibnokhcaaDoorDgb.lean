/- The text of a ground by the reference: what is no cell; GroundText. -/
import Derived.Test.YtekemhibnokhcaaDoorDgtx
namespace Go.Proofs.YtekemhibnokhcaaDoor
open Go.RowKit

def bareAt (g : G) (k : Nat) : Bool := (nbit (g.c k) == 0 && nbit (g.g k) == 0) && nbit (g.h k) == 0
/-- None of the first numbers that are no cells is -0. -/
def bareTo (g : G) : Nat → Bool
  | 0 => true
  | k + 1 => bareTo g k && (hasB g.wide g.high k || bareAt g k)
theorem bareTo_bad {g : G} {k : Nat} (h : bareTo g (k + 1) = false) : ∀ n, k < n → bareTo g n = false
  | 0, h0 => absurd h0 (Nat.not_lt_zero _)
  | n + 1, hn => by
    by_cases e : k = n
    · subst e; exact h
    · show (bareTo g n && _) = false
      rw [bareTo_bad h n (by omega)]; rfl
def gtS (g : G) : ByteArray := if okI g.m && bareTo g 64 then txtG g 64 else ⟨#[]⟩

def BaRel (g : G) (w : World) (v3 : Value) (wr : World) : Prop := ∃ j : Nat, j ≤ 64 ∧ v3 = .int .i64 j ∧ bareTo g j = true ∧ Below w.heap.size w wr

set_option maxRecDepth 100000 in
set_option maxHeartbeats 1600000 in
theorem l01Bare_any (b o : Nat) (g : G) (w : World) (hr : g.Rng) (hg : GAt w b o g) :
    Calls Tryd.prog 21 #[.pointer (some ⟨b, o, none⟩)] w (RetB (bareTo g 64) w) := by
  have HG := Lib.hid hg
  clear hg
  go_enter Tryd.func21, Tryd.ntmps21
  go_wp2_with fail
  go_loopw [3] (fun v3 wr => BaRel g w v3 wr) (fun v3 _ => 64 - (intOf v3).toNat)
  case atStart => exact ⟨0, by omega, rfl, rfl, Below.refl _ _⟩
  case round =>
    obtain ⟨j, hj, rfl, hbare, hBB⟩ := hrel
    have HB := Lib.hid hBB
    have HBA := Lib.hid hbare
    clear hBB hbare
    by_cases hlt : j < 64
    · have j1 : (j : Int) < 64 := by omega
      have j0 : (0 : Int) ≤ (j : Int) := by omega
      have HGB := HG.out.below HB.out
      have d0 := HGB.c hlt
      have d1 := HGB.g hlt
      have d2 := HGB.h hlt
      cases hh : hasB g.wide g.high j
      · have HH := Lib.hid hh
        clear hh
        have HZ : Hid (bareTo g (j + 1) = bareAt g j) := by show (bareTo g j && (hasB g.wide g.high j || bareAt g j)) = _; rw [HH.out, HBA.out]; rfl
        have HBad : Hid (bareAt g j = false → bareTo g 64 = false) := fun e => bareTo_bad (HZ.out.trans e) 64 hlt
        have HU : Hid (bareAt g j = ((nbit (g.c j) == 0 && nbit (g.g j) == 0) && nbit (g.h j) == 0)) := rfl
        have HC1 : Hid (∀ w', Calls Tryd.prog 44 #[.float .f32 (g.c j)] w' fun e w'' => e = .returned (.int .u32 (nbit (g.c j) : Nat)) ∧ w' = w'') := fun w' => l01Bits_any _ w'
        have HC2 : Hid (∀ w', Calls Tryd.prog 44 #[.float .f32 (g.g j)] w' fun e w'' => e = .returned (.int .u32 (nbit (g.g j) : Nat)) ∧ w' = w'') := fun w' => l01Bits_any _ w'
        have HC3 : Hid (∀ w', Calls Tryd.prog 44 #[.float .f32 (g.h j)] w' fun e w'' => e = .returned (.int .u32 (nbit (g.h j) : Nat)) ∧ w' = w'') := fun w' => l01Bits_any _ w'
        go_wp2_with fail
        refine (l01Is_any b o j g _ hlt hr HGB).mono ?_
        rw [HH.out]
        rintro e w1 ⟨rfl, rfl⟩
        go_wp2_with fail
        refine (HC1.out _).mono ?_
        rintro e w1 ⟨rfl, rfl⟩
        generalize nbit (g.c j) = n1 at *
        by_cases e1 : n1 = 0
        · subst e1
          go_wp2_with fail
          refine (HC2.out _).mono ?_
          rintro e w1 ⟨rfl, rfl⟩
          generalize nbit (g.g j) = n2 at *
          by_cases e2 : n2 = 0
          · subst e2
            go_wp2_with fail
            refine (HC3.out _).mono ?_
            rintro e w1 ⟨rfl, rfl⟩
            generalize nbit (g.h j) = n3 at *
            by_cases e3 : n3 = 0
            · subst e3
              go_wp2_with fail
              go_roundw
              case rel => exact ⟨j + 1, by omega, by go_num, HZ.out.trans HU.out, HB.out⟩
              case measure => simp [intOf]; omega
            · have e4 : ¬ (n3 : Int) = 0 := by omega
              go_wp2_with fail
              go_ret
              exact ⟨by rw [HBad.out (by rw [HU.out]; simp [e3])]; rfl, HB.out⟩
          · have e4 : ¬ (n2 : Int) = 0 := by omega
            go_wp2_with fail
            go_ret
            exact ⟨by rw [HBad.out (by rw [HU.out]; simp [e2])]; rfl, HB.out⟩
        · have e4 : ¬ (n1 : Int) = 0 := by omega
          go_wp2_with fail
          go_ret
          exact ⟨by rw [HBad.out (by rw [HU.out]; simp [e1])]; rfl, HB.out⟩
      · have HH := Lib.hid hh
        clear hh
        have HZ : Hid (bareTo g (j + 1) = true) := by show (bareTo g j && (hasB g.wide g.high j || bareAt g j)) = _; rw [HH.out, HBA.out]; rfl
        go_wp2_with fail
        refine (l01Is_any b o j g _ hlt hr HGB).mono ?_
        rw [HH.out]
        rintro e w1 ⟨rfl, rfl⟩
        go_wp2_with fail
        go_roundw
        case rel => exact ⟨j + 1, by omega, by go_num, HZ.out, HB.out⟩
        case measure => simp [intOf]; omega
    · have j1 : ¬ (j : Int) < 64 := by omega
      obtain rfl : j = 64 := by omega
      go_wp2_with fail
      go_ret
      exact ⟨by rw [HBA.out]; rfl, HB.out⟩

set_option maxRecDepth 100000 in
set_option maxHeartbeats 800000 in
theorem specGroundText_any (g : G) (w : World) (hr : g.Rng) (hx : g.Fx) (h32 : g.B32) :
    Calls Tryd.prog 10 #[.agg (arrG g)] w fun e w' => e = .returned (.string (gtS g)) ∧ Below w.heap.size w w' := by
  have HU : Hid (gtS g = if okI g.m && bareTo g 64 then txtG g 64 else ⟨#[]⟩) := rfl
  cases hok : okI g.m
  · have HOK := Lib.hid hok
    clear hok
    rw [HOK.out] at HU
    go_enter Tryd.func10, Tryd.ntmps10
    go_wp2_with (with_reducible refine wpList_box rfl ?_)
    intro B w1 hB1 hB2 hB3 hB4
    go_wp2_with fail
    refine (l01Ok_any B 0 g w1 hr (GAt.of_blk hB3)).mono ?_
    rw [HOK.out]
    rintro e w3 ⟨rfl, hb3⟩
    have HB := Lib.hid (hB4.trans (hb3.mono hB4.size))
    clear hB3 hB4 hb3
    go_wp2_with fail
    go_ret
    exact ⟨by rw [HU.out]; rfl, HB.out⟩
  · have HOK := Lib.hid hok
    have HS := Lib.hid (sane_of hok hx)
    clear hok
    rw [HOK.out] at HU
    cases hba : bareTo g 64
    · have HBA := Lib.hid hba
      clear hba
      rw [HBA.out] at HU
      go_enter Tryd.func10, Tryd.ntmps10
      go_wp2_with (with_reducible refine wpList_box rfl ?_)
      intro B w1 hB1 hB2 hB3 hB4
      go_wp2_with fail
      refine (l01Ok_any B 0 g w1 hr (GAt.of_blk hB3)).mono ?_
      rw [HOK.out]
      rintro e w3 ⟨rfl, hb3⟩
      have HG3 := hB3.later hb3
      have HB := Lib.hid (hB4.trans (hb3.mono hB4.size))
      clear hB3 hB4 hb3
      go_wp2_with fail
      refine (l01Bare_any B 0 g w3 hr (GAt.of_blk HG3)).mono ?_
      rw [HBA.out]
      rintro e w4 ⟨rfl, hb4⟩
      have HB4 := Lib.hid (HB.out.trans (hb4.mono HB.out.size))
      clear hb4 HG3
      go_wp2_with fail
      go_ret
      exact ⟨by rw [HU.out]; rfl, HB4.out⟩
    · have HBA := Lib.hid hba
      clear hba
      rw [HBA.out] at HU
      go_enter Tryd.func10, Tryd.ntmps10
      go_wp2_with (with_reducible refine wpList_box rfl ?_)
      intro B w1 hB1 hB2 hB3 hB4
      go_wp2_with fail
      refine (l01Ok_any B 0 g w1 hr (GAt.of_blk hB3)).mono ?_
      rw [HOK.out]
      rintro e w3 ⟨rfl, hb3⟩
      have HG3 := hB3.later hb3
      have HB := Lib.hid (hB4.trans (hb3.mono hB4.size))
      clear hB3 hB4 hb3
      go_wp2_with fail
      refine (l01Bare_any B 0 g w3 hr (GAt.of_blk HG3)).mono ?_
      rw [HBA.out]
      rintro e w4 ⟨rfl, hb4⟩
      have HG4 := HG3.later hb4
      have HB4 := Lib.hid (HB.out.trans (hb4.mono HB.out.size))
      clear hb4 HG3
      go_wp2_with fail
      refine (l01Text_any B 0 g w4 HS.out h32 (GAt.of_blk HG4)).mono ?_
      rintro e w5 ⟨rfl, hb5⟩
      have HB5 := Lib.hid (HB4.out.trans (hb5.mono HB4.out.size))
      clear hb5
      go_wp2_with fail
      go_ret
      exact ⟨by rw [HU.out]; rfl, HB5.out⟩
end Go.Proofs.YtekemhibnokhcaaDoor
