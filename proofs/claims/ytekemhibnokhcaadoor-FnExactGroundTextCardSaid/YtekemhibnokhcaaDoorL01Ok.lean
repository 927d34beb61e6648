/- Whether a ground is valid: the reference's test. -/
import Derived.Test.YtekemhibnokhcaaDoorValid
namespace Go.Proofs.YtekemhibnokhcaaDoor
open Go.RowKit

theorem order_none {d e : Ieee.Datum} (h : d.order e = none) : d.isNaN = true ∨ e.isNaN = true := by
  cases d <;> cases e <;> simp [Ieee.Datum.order, Ieee.Datum.isNaN] at h ⊢
theorem ford_none {x y : F} {a : Nat} (h : ford x (some a) = none) (ha : (Ieee.single.read a).isNaN = false) : ford x y = none := by
  cases x with
  | none => rfl
  | some b =>
    have hb : (Ieee.single.read b).isNaN = true := by
      rcases order_none (d := Ieee.single.read b) (e := Ieee.single.read a) h with h | h
      · exact h
      · rw [ha] at h; cases h
    cases y with
    | none => rfl
    | some c => show Ieee.single.order b c = none; unfold Ieee.Format.order; exact order_nan_l hb
theorem amount_eq (x : F) : amount x = (plain x && !flt x (some 0)) := by
  unfold amount
  cases h : ford x (some 0) with
  | none =>
    have h1 : ford x (some 3380609024) = none := ford_none h (by decide)
    simp [plain, fge, fgt, feq, h1]
  | some o => cases o <;> simp [fge, fgt, feq, flt, h]
theorem feq_lt (x : F) : feq x (some 0) = (feq x (some 0) && !flt x (some 0)) := by
  unfold feq flt
  cases h : ford x (some 0) with
  | none => rfl
  | some o => cases o <;> rfl

def posTo (f : Nat → F) (k : Nat) : Bool := (List.range k).all fun i => !flt (f i) (some 0)
theorem posTo_more {f : Nat → F} {k : Nat} : posTo f (k + 1) = (posTo f k && !flt (f k) (some 0)) := by
  unfold posTo; rw [List.range_succ, List.all_append]; simp
theorem posTo_bad {f : Nat → F} {k n : Nat} (hk : k < n) (h : flt (f k) (some 0) = true) : posTo f n = false := by
  unfold posTo; rw [List.all_eq_false]; exact ⟨k, List.mem_range.2 hk, by rw [h]; simp⟩
theorem field_amount (W H : Int) (f : Nat → F) (k : Nat) : fieldTo W H amount f k = (fieldTo W H plain f k && posTo f k) := by
  induction k with
  | zero => rfl
  | succ k ih =>
    rw [fieldTo_more, fieldTo_more, posTo_more, ih]
    cases hasB W H k
    · simp only [Bool.false_eq_true, if_false]
      rw [feq_lt (f k)]
      cases fieldTo W H plain f k <;> cases posTo f k <;> cases feq (f k) (some 0) <;> cases flt (f k) (some 0) <;> rfl
    · simp only [if_true]
      rw [amount_eq]
      cases fieldTo W H plain f k <;> cases posTo f k <;> cases plain (f k) <;> cases flt (f k) (some 0) <;> rfl
def fieldsS (m : M) : Bool := fieldTo m.wide m.high plain m.c 64 && fieldTo m.wide m.high plain m.g 64 && fieldTo m.wide m.high plain m.h 64 && posTo m.c 64
theorem fieldsS_eq (m : M) : fieldsI m = fieldsS m := by
  unfold fieldsI fieldsS
  rw [field_amount]
  cases fieldTo m.wide m.high plain m.c 64 <;> cases posTo m.c 64 <;> cases fieldTo m.wide m.high plain m.g 64 <;> cases fieldTo m.wide m.high plain m.h 64 <;> rfl

def PosRel (f : Nat → F) (w : World) (v : Value) (wr : World) : Prop := ∃ k : Nat, k ≤ 64 ∧ v = .int .i64 k ∧ posTo f k = true ∧ Below w.heap.size w wr

set_option maxRecDepth 100000 in
set_option maxHeartbeats 1600000 in
theorem l01Ok_any (b o : Nat) (g : G) (w : World) (hrng : g.Rng) (hg : GAt w b o g) :
    Calls Tryd.prog 20 #[.pointer (some ⟨b, o, none⟩)] w (RetB (okI g.m) w) := by
  have hlt' := order_lt
  have h0 := hg.wide
  have h1 := hg.high
  obtain ⟨⟨r0, r1⟩, ⟨r2, r3⟩⟩ := hrng
  by_cases hW : 2 ≤ g.wide ∧ g.wide ≤ 8
  rotate_left
  · have hok : okI g.m = false := by unfold okI; rw [decide_eq_false (fun h => hW h.1)]; rfl
    rw [hok]
    have HW := Lib.hid hW
    clear hok hW
    go_enter Tryd.func20, Tryd.ntmps20
    go_wp2_with fail
    refine (l00In_no _ _ _ _ HW.out).mono ?_
    rintro e w' ⟨rfl, rfl⟩
    go_wp2_with fail
    go_ret
    exact ⟨rfl, Below.refl _ _⟩
  by_cases hH : 2 ≤ g.high ∧ g.high ≤ 8
  rotate_left
  · have hok : okI g.m = false := by unfold okI; rw [decide_eq_false (fun h => hH h.2)]; rfl
    rw [hok]
    have HH := Lib.hid hH
    obtain ⟨q0, q1⟩ := hW
    clear hok hH
    go_enter Tryd.func20, Tryd.ntmps20
    go_wp2_with fail
    refine (l00In_yes _ _ _ _ q0 q1).mono ?_
    rintro e w' ⟨rfl, rfl⟩
    go_wp2_with fail
    refine (l00In_no _ _ _ _ HH.out).mono ?_
    rintro e w' ⟨rfl, rfl⟩
    go_wp2_with fail
    go_ret
    exact ⟨rfl, Below.refl _ _⟩
  have hsz : sized g.m := ⟨hW, hH⟩
  have hr := rng_of hsz
  have hok : okI g.m = (fieldsS g.m && fixedOk g.m) := by unfold okI; rw [decide_eq_true hsz, fieldsS_eq]; rfl
  rw [hok]
  obtain ⟨q0, q1⟩ := hW
  obtain ⟨q2, q3⟩ := hH
  clear hok hsz
  go_enter Tryd.func20, Tryd.ntmps20
  go_wp2_with fail
  refine (l00In_yes _ _ _ _ q0 q1).mono ?_
  rintro e w' ⟨rfl, rfl⟩
  go_wp2_with fail
  refine (l00In_yes _ _ _ _ q2 q3).mono ?_
  rintro e w' ⟨rfl, rfl⟩
  go_wp2_with fail
  refine (l01Field_any b o b (o + 2) g g.c w hr hg hg.fc).mono ?_
  cases e1 : fieldTo g.wide g.high plain (fm g.c) 64
  · rintro e w2 ⟨rfl, hb2⟩
    have E1 := Lib.hid e1
    have HB2 := Lib.hid hb2
    clear e1 hb2 h0 h1 hg
    go_wp2_with fail
    go_ret
    exact ⟨ret_bool (by simp [fieldsS, G.m, E1.out]), HB2.out⟩
  rintro e w2 ⟨rfl, hb2⟩
  have E1 := Lib.hid e1
  have HB2 := Lib.hid hb2
  have hg2 := hg.below hb2
  clear e1 hb2 h0 h1 hg
  go_wp2_with fail
  refine (l01Field_any b o b (o + 66) g g.g w2 hr hg2 hg2.fg).mono ?_
  cases e2 : fieldTo g.wide g.high plain (fm g.g) 64
  · rintro e w3 ⟨rfl, hb3⟩
    have E2 := Lib.hid e2
    have HB3 := Lib.hid (HB2.out.trans (hb3.mono HB2.out.size))
    clear e2 hb3 hg2
    go_wp2_with fail
    go_ret
    exact ⟨ret_bool (by simp [fieldsS, G.m, E2.out]), HB3.out⟩
  rintro e w3 ⟨rfl, hb3⟩
  have E2 := Lib.hid e2
  have HB3 := Lib.hid (HB2.out.trans (hb3.mono HB2.out.size))
  have hg3 := hg2.below hb3
  clear e2 hb3 hg2
  go_wp2_with fail
  refine (l01Field_any b o b (o + 130) g g.h w3 hr hg3 hg3.fh).mono ?_
  cases e3 : fieldTo g.wide g.high plain (fm g.h) 64
  · rintro e w4 ⟨rfl, hb4⟩
    have E3 := Lib.hid e3
    have HB4 := Lib.hid (HB3.out.trans (hb4.mono HB3.out.size))
    clear e3 hb4 hg3
    go_wp2_with fail
    go_ret
    exact ⟨ret_bool (by simp [fieldsS, G.m, E3.out]), HB4.out⟩
  rintro e w4 ⟨rfl, hb4⟩
  have E3 := Lib.hid e3
  have HB4 := Lib.hid (HB3.out.trans (hb4.mono HB3.out.size))
  have HG4 := Lib.hid (hg3.below hb4)
  clear e3 hb4 hg3
  go_wp2_with fail
  go_loopw [3] (fun v wr => PosRel (fm g.c) w4 v wr) (fun v _ => 64 - (intOf v).toNat)
  case atStart => exact ⟨0, by omega, rfl, rfl, Below.refl _ _⟩
  case round =>
    obtain ⟨k, hk, rfl, hto, hB⟩ := hrel
    have HG := Lib.hid (HG4.out.below hB)
    have HB := Lib.hid (HB4.out.trans (hB.mono HB4.out.size))
    have HBB := Lib.hid hB
    have HT := Lib.hid hto
    clear hB hto
    by_cases hk64 : k < 64
    · have hcell := HG.out.c hk64
      have k1 : (k : Int) < 64 := by omega
      cases he : flt (fb (g.c k)) (fb 0)
      · have HE := Lib.hid he
        go_wp2_with fail
        go_roundw
        case rel => exact ⟨k + 1, by omega, by go_num, by rw [posTo_more, HT.out, fm_of hk64, ← fb0, HE.out]; rfl, HBB.out⟩
        case measure => simp [intOf]; omega
      · have HE := Lib.hid he
        go_wp2_with fail
        go_ret
        exact ⟨ret_bool (by rw [fieldsS, show (G.m g).c = fm g.c from rfl, posTo_bad hk64 (by rw [fm_of hk64, ← fb0]; exact HE.out)]; simp), HB.out⟩
    · have h0 := HG.out.fixed
      have hkn : ¬ (k : Int) < 64 := by omega
      have HT2 : Hid (posTo (fm g.c) 64 = true) := by obtain rfl : k = 64 := by omega
                                                      exact HT.out
      cases e4 : (g.fixed != 0)
      · have E4 := Lib.hid e4
        go_wp2_with fail
        go_quiet (fail)
        go_wp2_with fail
        go_ret
        exact ⟨ret_bool (by simp [fixedOk, G.m, E4.out]), below_drawn HB.out _⟩
      · have E4 := Lib.hid e4
        have hc := fun x => ext_cell wr x h0
        clear h0
        go_wp2_with fail
        refine wp_soft (SV (.int .u64 (bitsL (cellsM g.m)))) (by kernel_rfl) (by kernel_rfl) ?_
        repeat (first | (refine soft_step (fun K hK => ?_); go_simp; (try go_bits); refine hK _ ?_; clear hK K) | (refine soft_step (fun K hK => ?_); go_simp; refine ⟨_, _, ⟨rfl, rfl⟩, fun x => (l01Cells_any b o g _ hr (HG.out.below (ext_below _ x))).mono ?_, ?_⟩; (rintro e w1 ⟨he, hb⟩; exact ⟨_, he, rfl, hb⟩); rintro v rfl; refine hK _ ?_; clear hK K))
        refine soft_nil ?_
        rintro w5 hw5
        have HB5 := Lib.hid (HB.out.trans (hw5.below.mono HB.out.size))
        clear hw5
        go_wp2_with fail
        go_ret
        exact ⟨ret_bool (by simp [fieldsS, fixedOk, G.m, E1.out, E2.out, E3.out, E4.out, HT2.out]), HB5.out⟩
end Go.Proofs.YtekemhibnokhcaaDoor
