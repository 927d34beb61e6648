/- The reference's joints, flows and balances. -/
import Derived.Test.YtfcphfdfpjmgiaaL01Ok
namespace Go.Proofs.Ytfcphfdfpjmgiaa
open Go.RowKit

set_option maxHeartbeats 400000 in
theorem l01Joint_any (a b : Nat) (w : World) :
    Calls Try.prog 194 #[.float .f32 a, .float .f32 b] w (RetF (joint (fb a) (fb b)) w) := by
  have hgt := order_gt
  go_enter Try.func194, Try.ntmps194
  go_wp2_with (refine wpList_arith _ _ rfl rfl rfl ?_; intro r n hr)
  all_goals
    go_ret
    refine ⟨_, rfl, ?_, by repeat (first | exact Below.refl _ _ | refine below_drawn ?_ _)⟩
    simp only [Is, fop, fb0, fb2, Bool.not_eq_true', Bool.not_eq_false'] at *
    simp [joint, *]

set_option maxHeartbeats 800000 in
theorem l01Beside_any (b o k s : Nat) (g : G) (w : World) (hk : k < 64) (hs : s < 4) (hr : g.Rng) (hg : GAt w b o g) :
    Calls Try.prog 159 #[.pointer (some ⟨b, o, none⟩), .int .i64 k, .int .i64 s] w fun e w' => e = .returned (.int .i64 (beside g.wide g.high k s)) ∧ w = w' := by
  have h0 := hg.wide
  have h1 := hg.high
  obtain ⟨⟨r0, r1⟩, ⟨r2, r3⟩⟩ := hr
  clear hg
  obtain rfl | rfl | rfl | rfl : s = 0 ∨ s = 1 ∨ s = 2 ∨ s = 3 := by omega
  all_goals
    go_enter Try.func159, Try.ntmps159
    go_wp2_with (go_at_call 96; refine (l00In_any _ _ _ _).mono ?_; rintro e w' ⟨rfl, rfl⟩)
    all_goals
      go_ret
      refine ⟨ret_int ?_, rfl⟩
      simp only [beside, besideXY]
      simp at *
      omega

/-- A float and a whole number are handed back. -/
def RetFI (x : F) (z : Int) (w : World) (e : Ending) (w' : World) : Prop := ∃ r, e = .returned (.tuple #[.float .f32 r, .int .i64 z]) ∧ Is r x ∧ Below w.heap.size w w'

def between (m : M) (k s : Nat) : F := if beside m.wide m.high k s < 0 then some 0 else joint (m.c k) (m.c (beside m.wide m.high k s).toNat)

set_option maxRecDepth 100000 in
set_option maxHeartbeats 400000 in
theorem l01Between_any (b o k s : Nat) (g : G) (w : World) (hk : k < 64) (hs : s < 4) (hr : g.Rng) (hW : g.wide ≤ 8) (hH : g.high ≤ 8) (hg : GAt w b o g) :
    Calls Try.prog 177 #[.pointer (some ⟨b, o, none⟩), .int .i64 k, .int .i64 s] w (RetFI (between g.m k s) (beside g.wide g.high k s) w) := by
  have hlt := beside_lt g.wide g.high k s hk hW hH
  by_cases hn : beside g.wide g.high k s < 0
  · have hm1 : beside g.wide g.high k s = -1 := by omega
    have HM := Lib.hid hm1
    have HN := Lib.hid hn
    clear hn hlt hm1
    go_enter Try.func177, Try.ntmps177
    go_wp2_with fail
    refine (l01Beside_any b o k s g _ hk hs hr hg).mono ?_
    rw [HM.out]
    rintro e w' ⟨rfl, rfl⟩
    go_wp2_with fail
    go_ret2
    exact ⟨0, by rw [HM.out]; rfl, by simp [between, G.m, HM.out, Is, fb0], Below.refl _ _⟩
  · obtain ⟨m, hm⟩ : ∃ m : Nat, beside g.wide g.high k s = m := ⟨(beside g.wide g.high k s).toNat, by omega⟩
    have hml : m < 64 := by omega
    have HM := Lib.hid hm
    have k1 : (k : Int) < 64 := by omega
    have m1 : (m : Int) < 64 := by omega
    have c1 := fun x => ext_cell w x (hg.c hk)
    have c2 := fun x => ext_cell w x (hg.c hml)
    have cb := (l01Beside_any b o k s g w hk hs hr hg)
    rw [hm] at cb
    have CB := Lib.hid cb
    rw [hm]
    clear cb hn hlt hm hg hr hW hH hs
    go_enter Try.func177, Try.ntmps177
    go_wp2_with fail
    refine CB.out.mono ?_
    rintro e w' ⟨rfl, rfl⟩
    go_wp2_with fail
    refine wp_soft (SF (joint (fb (g.c k)) (fb (g.c m)))) (by kernel_rfl) (by kernel_rfl) ?_
    repeat (first | (refine soft_step (fun K hK => ?_); go_simp; (try go_bits); refine hK _ ?_; clear hK K) | (refine soft_step (fun K hK => ?_); go_simp; refine ⟨_, _, ⟨rfl, rfl⟩, fun x => (l01Joint_any _ _ _).mono ?_, ?_⟩; (rintro e w1 ⟨r, he, hr, hb⟩; exact ⟨_, he, ⟨r, rfl, hr⟩, hb⟩); rintro v ⟨r, rfl, hr⟩; refine hK _ ?_; clear hK K))
    refine soft_nil ?_
    rintro w1 hw1
    have HB := Lib.hid hw1.below
    clear hw1
    go_wp2_with fail
    go_ret2
    refine ⟨_, rfl, ?_, HB.out⟩
    simp only [Is] at *
    have hk2 := fm_of (f := g.c) hk
    have hk4 := fm_of (f := g.c) hml
    have hnn : ¬ ((m : Int) < 0) := by omega
    simp [between, G.m, HM.out, *]

set_option maxRecDepth 100000 in
set_option maxHeartbeats 400000 in
theorem l01Flow_any (b o k s : Nat) (g : G) (w : World) (hk : k < 64) (hs : s < 4) (hr : g.Rng) (hW : g.wide ≤ 8) (hH : g.high ≤ 8) (hg : GAt w b o g) :
    Calls Try.prog 165 #[.pointer (some ⟨b, o, none⟩), .int .i64 k, .int .i64 s] w (RetF (flow g.m k s) w) := by
  have hlt := beside_lt g.wide g.high k s hk hW hH
  by_cases hn : beside g.wide g.high k s < 0
  · have hm1 : beside g.wide g.high k s = -1 := by omega
    have HM := Lib.hid hm1
    have HN := Lib.hid hn
    clear hn hlt hm1
    go_enter Try.func165, Try.ntmps165
    go_wp2_with fail
    refine (l01Between_any b o k s g _ hk hs hr hW hH hg).mono ?_
    rw [HM.out]
    rintro e w1 ⟨r, rfl, hrr, hb1⟩
    have HB1 := Lib.hid hb1
    clear hb1
    go_wp2_with fail
    go_ret
    exact ⟨0, rfl, by simp [flow, G.m, HM.out, Is, fb0], HB1.out⟩
  · obtain ⟨m, hm⟩ : ∃ m : Nat, beside g.wide g.high k s = m := ⟨(beside g.wide g.high k s).toNat, by omega⟩
    have hml : m < 64 := by omega
    have HM := Lib.hid hm
    have k1 : (k : Int) < 64 := by omega
    have m1 : (m : Int) < 64 := by omega
    have cb := (l01Between_any b o k s g w hk hs hr hW hH hg)
    rw [hm] at cb
    have CB := Lib.hid cb
    have HG := Lib.hid hg
    clear cb hn hlt hm hg hr hW hH hs
    go_enter Try.func165, Try.ntmps165
    go_wp2_with fail
    refine CB.out.mono ?_
    rintro e w0 ⟨r0, rfl, hr0, hb0⟩
    have c3 := fun x => ext_cell w0 x ((HG.out.below hb0).h hk)
    have c4 := fun x => ext_cell w0 x ((HG.out.below hb0).h hml)
    have HB0 := Lib.hid hb0
    clear hb0
    go_wp2_with fail
    refine wp_soft (SF none) (by kernel_rfl) (by kernel_rfl) ?_
    repeat (first | (refine soft_arith (fun _ n h => h.drewN n) _ _ rfl rfl rfl ?_; intro r hr) | (refine soft_step (fun K hK => ?_); go_simp; (try go_bits); refine hK _ ?_; clear hK K))
    refine soft_nil ?_
    rintro w1 hw1
    have HB := Lib.hid (HB0.out.trans (hw1.below.mono HB0.out.size))
    clear hw1
    go_wp2_with fail
    go_ret
    refine ⟨_, rfl, ?_, HB.out⟩
    have hk2 := fm_of (f := g.c) hk
    have hk3 := fm_of (f := g.h) hk
    have hk4 := fm_of (f := g.c) hml
    have hk5 := fm_of (f := g.h) hml
    simp only [Is, fop, between, G.m] at *
    have hnn : ¬ ((m : Int) < 0) := by omega
    simp [flow, HM.out, *]

set_option maxHeartbeats 400000 in
theorem l01Finite_any (a : Nat) (x : F) (w : World) (ha : Is a x) :
    Calls Try.prog 141 #[.float .f32 a] w (RetB (fin x) w) := by
  have heq := order_eq
  have HA := Lib.hid ha
  clear ha
  go_enter Try.func141, Try.ntmps141
  go_wp2_with (refine wpList_arith _ _ rfl rfl rfl ?_; intro r n hr)
  go_ret
  refine ⟨ret_bool ?_, below_drawn (Below.refl _ _) _⟩
  have := hr.out
  rw [this, fop, HA.out.out, fb0]
  rfl

set_option maxRecDepth 100000 in
set_option maxHeartbeats 400000 in
theorem l01Balance_any (b o k : Nat) (g : G) (w : World) (hk : k < 64) (hr : g.Rng) (hW : g.wide ≤ 8) (hH : g.high ≤ 8) (hg : GAt w b o g) :
    Calls Try.prog 193 #[.pointer (some ⟨b, o, none⟩), .int .i64 k] w (RetF (balTo g.m k 4) w) := by
  have c1 := hg.g hk
  have k1 : (k : Int) < 64 := by omega
  go_enter Try.func193, Try.ntmps193
  go_wp2_with fail
  go_loopw [5, 6] (fun v5 v13 wr => BalRel g k w v5 v13 wr) (fun _ v13 _ => 4 - (intOf v13).toNat)
  case atStart => exact ⟨0, g.g k, by omega, rfl, rfl, (fm_of hk).symm, Below.refl _ _⟩
  case round =>
    obtain ⟨s, r, hs, rfl, rfl, hr, hB⟩ := hrel
    have HG := Lib.hid (hg.below hB)
    have HB := Lib.hid hB
    clear hB hg
    by_cases hlt : s < 4
    · by_cases hb : 0 ≤ beside g.wide g.high k s
      · go_wp2_with (first | (go_at_call 159; refine (l01Beside_any b o k s g _ hk hlt (by assumption) HG.out).mono ?_; rintro e w' ⟨rfl, rfl⟩) | (go_at_call 165; refine (l01Flow_any b o k s g _ hk hlt (by assumption) (by assumption) (by assumption) HG.out).mono ?_; rintro e w1 ⟨r1, rfl, hr1, hb1⟩; have HB1 := Lib.hid hb1; clear hb1) | (refine wpList_arith _ _ rfl rfl rfl ?_; intro r2 n2 hr2))
        go_roundw
        case rel => exact ⟨s + 1, r2, by omega, by go_num, rfl, by rw [balTo_yes (g := g.m) hb]; exact hr2.op hr hr1, below_drawn (HB.out.trans (HB1.out.mono HB.out.size)) _⟩
        case measure => simp [intOf]; omega
      · go_wp2_with (first | (go_at_call 159; refine (l01Beside_any b o k s g _ hk hlt (by assumption) HG.out).mono ?_; rintro e w' ⟨rfl, rfl⟩))
        go_roundw
        case rel => exact ⟨s + 1, r, by omega, by go_num, rfl, by rw [balTo_no (g := g.m) (by show ¬ 0 ≤ beside g.wide g.high k s; omega)]; exact hr, HB.out⟩
        case measure => simp [intOf]; omega
    · go_wp2
      obtain rfl : s = 4 := by omega
      go_ret
      exact ⟨r, rfl, hr, HB.out⟩
end Go.Proofs.Ytfcphfdfpjmgiaa
