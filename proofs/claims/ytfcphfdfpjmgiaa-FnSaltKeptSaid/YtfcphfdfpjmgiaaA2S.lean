/- What the great laws compare and ask: sameness by the reference, the cell beside, flows, heads and balances told with codes. -/
import Derived.Test.YtfcphfdfpjmgiaaLM2
import Derived.Test.YtfcphfdfpjmgiaaSameN
import Derived.Test.YtfcphfdfpjmgiaaAbs
namespace Go.Proofs.Ytfcphfdfpjmgiaa
open Go.RowKit

def SfRel (w : World) (v5 : Value) (wr : World) : Prop := ∃ k : Nat, k ≤ 64 ∧ v5 = .int .i64 k ∧ Below w.heap.size w wr
set_option maxRecDepth 100000 in
set_option maxHeartbeats 1600000 in
theorem l01SameField_eq (b o b' o' : Nat) (f f' : Nat → Nat) (w : World) (hf : FAt w b o f) (hf' : FAt w b' o' f') (h : fm f = fm f') :
    Calls Try.prog 133 #[.pointer (some ⟨b, o, none⟩), .pointer (some ⟨b', o', none⟩)] w (RetB true w) := by
  have HF := Lib.hid hf
  have HF' := Lib.hid hf'
  have HH := Lib.hid h
  clear hf hf' h
  go_enter Try.func133, Try.ntmps133
  go_wp2_with fail
  go_loopw [5] (fun v5 wr => SfRel w v5 wr) (fun v5 _ => 64 - (intOf v5).toNat)
  case atStart => exact ⟨0, by omega, rfl, Below.refl _ _⟩
  case round =>
    obtain ⟨k, hk, rfl, hB⟩ := hrel
    have HBr := Lib.hid hB
    by_cases hlt : k < 64
    · have c1 := fun x => ext_cell wr x ((HF.out.below hB) k hlt)
      have c2 := fun x => ext_cell wr x ((HF'.out.below hB) k hlt)
      have k1 : (k : Int) < 64 := by omega
      have he : Hid (fb (f k) = fb (f' k)) := by
        show _ = _
        have := congrFun HH.out k
        rwa [fm_of hlt, fm_of hlt] at this
      clear hB
      go_wp2_with fail
      refine wp_soft (SV (.bool true)) (by kernel_rfl) (by kernel_rfl) ?_
      repeat (first | (refine soft_step (fun K hK => ?_); go_simp; (try go_bits); refine hK _ ?_; clear hK K) | (refine soft_step (fun K hK => ?_); go_simp; refine ⟨_, _, ⟨rfl, rfl⟩, fun x => (l01Same_eq _ _ _ he.out).mono ?_, ?_⟩; (rintro e w1 ⟨he, rfl⟩; exact ⟨_, he, rfl, Below.refl _ _⟩); rintro v rfl; refine hK _ ?_; clear hK K))
      refine soft_nil ?_
      rintro w5 hw5
      have HB5 := Lib.hid (HBr.out.trans (hw5.below.mono HBr.out.size))
      clear hw5
      go_wp2_with fail
      go_roundw
      case rel => exact ⟨k + 1, by omega, by go_num, HB5.out⟩
      case measure => simp [intOf]; omega
    · have k1 : ¬ (k : Int) < 64 := by omega
      clear hB
      go_wp2_with fail
      go_ret
      exact ⟨rfl, HBr.out⟩

theorem fc0 {w : World} {b : Nat} {g : G} (h : GAt w b 0 g) : FAt w b 2 g.c := by have := h.fc; rwa [Nat.zero_add] at this
theorem fg0 {w : World} {b : Nat} {g : G} (h : GAt w b 0 g) : FAt w b 66 g.g := by have := h.fg; rwa [Nat.zero_add] at this
theorem fh0 {w : World} {b : Nat} {g : G} (h : GAt w b 0 g) : FAt w b 130 g.h := by have := h.fh; rwa [Nat.zero_add] at this
set_option maxRecDepth 100000 in
set_option maxHeartbeats 1600000 in
theorem l01SameGround_eq (A B : Nat) (g g' : G) (w : World) (hA : GAt w A 0 g) (hB : GAt w B 0 g') (h : g.m = g'.m) :
    Calls Try.prog 98 #[.pointer (some ⟨A, 0, none⟩), .pointer (some ⟨B, 0, none⟩)] w (RetB true w) := by
  have h1 : g'.wide = g.wide := (congrArg M.wide h).symm
  have h2 : g'.high = g.high := (congrArg M.high h).symm
  have h6 : g'.fixed = g.fixed := (congrArg M.fixed h).symm
  have HA := Lib.hid hA
  have HB := Lib.hid hB
  have HC : Hid (fm g.c = fm g'.c) := congrArg M.c h
  have HG : Hid (fm g.g = fm g'.g) := congrArg M.g h
  have HH : Hid (fm g.h = fm g'.h) := congrArg M.h h
  have b0 := hB.wide
  have b1 := hB.high
  have b2 := hB.fixed
  rw [h1] at b0
  rw [h2] at b1
  rw [h6] at b2
  have a1 := hA.high
  have a2 := hA.fixed
  simp only [Nat.zero_add] at a1 a2 b1 b2
  have p0 := fun x => ext_cell w x hA.wide
  have p1 := fun x => ext_cell w x a1
  have p2 := fun x => ext_cell w x a2
  have q0 := fun x => ext_cell w x b0
  have q1 := fun x => ext_cell w x b1
  have q2 := fun x => ext_cell w x b2
  clear h h1 h2 h6 hA hB a1 a2 b0 b1 b2
  go_enter Try.func98, Try.ntmps98
  go_wp2_with fail
  refine wp_soft (SV (.bool true)) (by kernel_rfl) (by kernel_rfl) ?_
  repeat (first | (refine soft_step (fun K hK => ?_); go_simp; (try go_bits); refine hK _ ?_; clear hK K) | (refine soft_step (fun K hK => ?_); go_simp; refine ⟨_, _, ⟨rfl, rfl⟩, fun x => ?_, ?_⟩; (first | ((with_reducible refine (l01SameField_eq A 2 B 2 g.c g'.c _ ?_ ?_ HC.out).mono ?_); (exact fc0 (HA.out.below (ext_below _ x))); (exact fc0 (HB.out.below (ext_below _ x)))) | ((with_reducible refine (l01SameField_eq A 66 B 66 g.g g'.g _ ?_ ?_ HG.out).mono ?_); (exact fg0 (HA.out.below (ext_below _ x))); (exact fg0 (HB.out.below (ext_below _ x)))) | ((with_reducible refine (l01SameField_eq A 130 B 130 g.h g'.h _ ?_ ?_ HH.out).mono ?_); (exact fh0 (HA.out.below (ext_below _ x))); (exact fh0 (HB.out.below (ext_below _ x))))); (rintro e w1 ⟨he, hb⟩; exact ⟨_, he, rfl, hb⟩); rintro v rfl; refine hK _ ?_; clear hK K))
  refine soft_nil ?_
  rintro w5 hw5
  have HB5 := Lib.hid hw5.below
  clear hw5
  go_wp2_with fail
  go_ret
  exact ⟨rfl, HB5.out⟩

set_option maxRecDepth 100000 in
set_option maxHeartbeats 800000 in
theorem SameGround_eq (g g' : G) (w : World) (h : g.m = g'.m) : Calls Try.prog 15 #[.agg (arrG g), .agg (arrG g')] w (RetB true w) := by
  have HH := Lib.hid h
  clear h
  go_enter Try.func15, Try.ntmps15
  go_wp2_with (with_reducible refine wpList_box rfl ?_)
  intro A wA hA1 hA2 hA3 hA4
  go_wp2_with (with_reducible refine wpList_box rfl ?_)
  intro B wB hB1 hB2 hB3 hB4
  have HA := Lib.hid (GAt.of_blk (hA3.later hB4))
  have HB := Lib.hid (GAt.of_blk hB3)
  have HBel := Lib.hid (below_next hA4 hB4)
  clear hA3 hA4 hB3 hB4
  go_wp2_with fail
  refine (l01SameGround_eq A B g g' wB HA.out HB.out HH.out).mono ?_
  rintro e w1 ⟨rfl, hb⟩
  have HB1 := Lib.hid (below_next HBel.out hb)
  clear hb
  go_wp2_with fail
  go_ret
  exact ⟨rfl, HB1.out⟩

set_option maxRecDepth 100000 in
set_option maxHeartbeats 800000 in
theorem SameField_eq (f f' : Nat → Nat) (w : World) (h : fm f = fm f') : Calls Try.prog 79 #[.agg (arrF f), .agg (arrF f')] w (RetB true w) := by
  have HH := Lib.hid h
  clear h
  go_enter Try.func79, Try.ntmps79
  go_wp2_with (with_reducible refine wpList_box rfl ?_)
  intro A wA hA1 hA2 hA3 hA4
  go_wp2_with (with_reducible refine wpList_box rfl ?_)
  intro B wB hB1 hB2 hB3 hB4
  have HA : Hid (FAt wB A 0 f) := fun i hi => by rw [Nat.zero_add]; exact (hA3.later hB4).at (arrF_get f hi)
  have HB : Hid (FAt wB B 0 f') := fun i hi => by rw [Nat.zero_add]; exact hB3.at (arrF_get f' hi)
  have HBel := Lib.hid (below_next hA4 hB4)
  clear hA3 hA4 hB3 hB4
  go_wp2_with fail
  refine (l01SameField_eq A 0 B 0 f f' wB HA.out HB.out HH.out).mono ?_
  rintro e w1 ⟨rfl, hb⟩
  have HB1 := Lib.hid (below_next HBel.out hb)
  clear hb
  go_wp2_with fail
  go_ret
  exact ⟨rfl, HB1.out⟩

set_option maxRecDepth 100000 in
set_option maxHeartbeats 800000 in
theorem A2Size_any (a : Nat) (x : F) (w : World) (ha : Is a x) : Calls Try.prog 24 #[.float .f32 a] w (RetF (fabs x) w) := by
  have HA := Lib.hid ha
  clear ha
  go_enter Try.func24, Try.ntmps24
  go_wp2_with fail
  refine (l01Size_any a x w HA.out).mono ?_
  rintro e w1 ⟨r, rfl, hr, hb⟩
  have HR := Lib.hid hr
  have HB := Lib.hid hb
  clear hr hb
  go_wp2_with fail
  go_ret
  exact ⟨r, rfl, HR.out, HB.out⟩

set_option maxRecDepth 100000 in
set_option maxHeartbeats 800000 in
theorem SettledHead_any (k : Nat) (g : G) (w : World) (hsn : g.Sane) (ho : okI g.m = true) (hk : IsCell g.m k) (hfin : fin (head g.m k) = true) :
    Calls Try.prog 67 #[.agg (arrG g), .int .i64 k] w (RetFI (head g.m k) 0 w) := by
  have HA := Lib.hid (ask_cell ho hk)
  have HF := Lib.hid hfin
  have hr := hsn.rng
  have hk64 := hk.1
  clear ho hk hfin
  go_enter Try.func67, Try.ntmps67
  go_wp2_with (with_reducible refine wpList_box rfl ?_)
  intro B wB hB1 hB2 hB3 hB4
  have HBB := Lib.hid hB4
  have HG := Lib.hid hB3
  clear hB3 hB4
  go_wp2_with fail
  refine (cellFault_any B _ k g wB hr HG.out).mono ?_
  rw [HA.out]
  rintro e w2 ⟨rfl, hb2⟩
  have HB2 := Lib.hid (below_next HBB.out hb2)
  have HG2 := Lib.hid (GAt.of_blk (HG.out.later hb2))
  clear hb2
  go_wp2_with fail
  refine (settled_any B 0 k g w2 hk64 hsn HG2.out).mono ?_
  rintro e w3 ⟨r, rfl, hr3, hb3⟩
  have HB3 := Lib.hid (below_next HB2.out hb3)
  have HR := Lib.hid hr3
  clear hb3 hr3
  go_wp2_with fail
  refine (told_any r _ w3 HR.out).mono ?_
  rw [HF.out]
  rintro e w4 ⟨q, rfl, hq, hb4⟩
  have HB4 := Lib.hid (below_next HB3.out hb4)
  have HQ := Lib.hid hq
  clear hb4 hq
  go_wp2_with fail
  go_ret2
  exact ⟨q, rfl, HQ.out, HB4.out⟩

set_option maxRecDepth 100000 in
set_option maxHeartbeats 800000 in
theorem BalanceAt_any (k : Nat) (g : G) (w : World) (hsn : g.Sane) (ho : okI g.m = true) (hk : IsCell g.m k) (hfin : fin (balTo g.m k 4) = true) :
    Calls Try.prog 26 #[.agg (arrG g), .int .i64 k] w (RetFI (balTo g.m k 4) 0 w) := by
  have HA := Lib.hid (ask_cell ho hk)
  have HF := Lib.hid hfin
  have hr := hsn.rng
  have hk64 := hk.1
  clear ho hk hfin
  go_enter Try.func26, Try.ntmps26
  go_wp2_with (with_reducible refine wpList_box rfl ?_)
  intro B wB hB1 hB2 hB3 hB4
  have HBB := Lib.hid hB4
  have HG := Lib.hid hB3
  clear hB3 hB4
  go_wp2_with fail
  refine (cellFault_any B _ k g wB hr HG.out).mono ?_
  rw [HA.out]
  rintro e w2 ⟨rfl, hb2⟩
  have HB2 := Lib.hid (below_next HBB.out hb2)
  have HG2 := Lib.hid (GAt.of_blk (HG.out.later hb2))
  clear hb2
  go_wp2_with fail
  refine (balance_any B 0 k g w2 hk64 hr hsn.hW hsn.hH HG2.out).mono ?_
  rintro e w3 ⟨r, rfl, hr3, hb3⟩
  have HB3 := Lib.hid (below_next HB2.out hb3)
  have HR := Lib.hid hr3
  clear hb3 hr3
  go_wp2_with fail
  refine (told_any r _ w3 HR.out).mono ?_
  rw [HF.out]
  rintro e w4 ⟨q, rfl, hq, hb4⟩
  have HB4 := Lib.hid (below_next HB3.out hb4)
  have HQ := Lib.hid hq
  clear hb4 hq
  go_wp2_with fail
  go_ret2
  exact ⟨q, rfl, HQ.out, HB4.out⟩

set_option maxRecDepth 100000 in
set_option maxHeartbeats 800000 in
theorem l01Sided_any (b : Nat) (t : TypeId) (k s : Nat) (g : G) (w : World) (hr : g.Rng) (ho : askC g.m k = 0) (hs : s < 4) (hg : Blk w b (arrG g) t) :
    Calls Try.prog 158 #[.pointer (some ⟨b, 0, none⟩), .int .i64 k, .int .i64 s] w (RetI .i64 0 w) := by
  have HO := Lib.hid ho
  have s1 : (s : Int) ≤ 3 := by omega
  have s0 : (0 : Int) ≤ s := by omega
  clear ho
  go_enter Try.func158, Try.ntmps158
  go_wp2_with fail
  refine (l01Asked_any b t k g w hr hg).mono ?_
  rw [HO.out]
  rintro e w2 ⟨rfl, hb2⟩
  have HB2 := Lib.hid hb2
  clear hb2
  go_wp2_with fail
  refine (l00In_any _ _ _ _).mono ?_
  rw [decide_eq_true s0, decide_eq_true s1]
  rintro e w3 ⟨rfl, rfl⟩
  go_wp2_with fail
  go_ret
  exact ⟨rfl, HB2.out⟩
/-- The cell beside a cell, with a code: 6 where there is none. -/
def besZ (m : M) (k s : Nat) : Int := if beside m.wide m.high k s < 0 then 0 else beside m.wide m.high k s
def besC (m : M) (k s : Nat) : Int := if beside m.wide m.high k s < 0 then 6 else 0
set_option maxRecDepth 100000 in
set_option maxHeartbeats 800000 in
theorem specBesideCell_any (k s : Nat) (g : G) (w : World) (hsn : g.Sane) (ho : okI g.m = true) (hk : IsCell g.m k) (hs : s < 4) :
    Calls Try.prog 68 #[.agg (arrG g), .int .i64 k, .int .i64 s] w fun e w' => e = .returned (.tuple #[.int .i64 (besZ g.m k s), .int .i64 (besC g.m k s)]) ∧ Below w.heap.size w w' := by
  have HA := Lib.hid (ask_cell ho hk)
  have hr := hsn.rng
  have hk64 := hk.1
  obtain ⟨y, hy⟩ : ∃ y, beside g.wide g.high k s = y := ⟨_, rfl⟩
  have HZ : Hid (besZ g.m k s = if y < 0 then 0 else y) := by show (if beside g.wide g.high k s < 0 then _ else beside g.wide g.high k s) = _; rw [hy]
  have HC : Hid (besC g.m k s = if y < 0 then 6 else 0) := by show (if beside g.wide g.high k s < 0 then _ else _) = _; rw [hy]
  have HY := Lib.hid hy
  clear ho hk hy
  by_cases hn : y < 0
  all_goals
    go_enter Try.func68, Try.ntmps68
    go_wp2_with (with_reducible refine wpList_box rfl ?_)
    intro B wB hB1 hB2 hB3 hB4
    have HBB := Lib.hid hB4
    have HG := Lib.hid hB3
    clear hB3 hB4
    go_wp2_with fail
    refine (l01Sided_any B _ k s g wB hr HA.out hs HG.out).mono ?_
    rintro e w2 ⟨rfl, hb2⟩
    have HB2 := Lib.hid (below_next HBB.out hb2)
    have HG2 := Lib.hid (GAt.of_blk (HG.out.later hb2))
    clear hb2
    go_wp2_with fail
    refine (l01Beside_any B 0 k s g w2 hk64 hs hr HG2.out).mono ?_
    rw [HY.out]
    rintro e w3 ⟨rfl, rfl⟩
    go_wp2_with fail
    go_ret2
    refine ⟨?_, HB2.out⟩
    rw [HZ.out, HC.out]
    first | (rw [if_pos (by omega), if_pos (by omega)]; done) | (rw [if_pos (by omega), if_pos (by omega)]; rfl) | (rw [if_neg (by omega), if_neg (by omega)]; done) | (rw [if_neg (by omega), if_neg (by omega)]; rfl)

set_option maxRecDepth 100000 in
set_option maxHeartbeats 800000 in
theorem specFlowFrom_any (k s : Nat) (g : G) (w : World) (hsn : g.Sane) (ho : okI g.m = true) (hk : IsCell g.m k) (hs : s < 4) :
    Calls Try.prog 80 #[.agg (arrG g), .int .i64 k, .int .i64 s] w (RetFI (flow g.m k s) 0 w) := by
  have HA := Lib.hid (ask_cell ho hk)
  have HF := Lib.hid (flow_fin ho hk.1 hk.2 (s := s))
  have hr := hsn.rng
  have hk64 := hk.1
  clear ho hk
  go_enter Try.func80, Try.ntmps80
  go_wp2_with (with_reducible refine wpList_box rfl ?_)
  intro B wB hB1 hB2 hB3 hB4
  have HBB := Lib.hid hB4
  have HG := Lib.hid hB3
  clear hB3 hB4
  go_wp2_with fail
  refine (l01Sided_any B _ k s g wB hr HA.out hs HG.out).mono ?_
  rintro e w2 ⟨rfl, hb2⟩
  have HB2 := Lib.hid (below_next HBB.out hb2)
  have HG2 := Lib.hid (GAt.of_blk (HG.out.later hb2))
  clear hb2
  go_wp2_with fail
  refine (l01Flow_any B 0 k s g w2 hk64 hs hr hsn.hW hsn.hH HG2.out).mono ?_
  rintro e w3 ⟨r, rfl, hr3, hb3⟩
  have HB3 := Lib.hid (below_next HB2.out hb3)
  have HR := Lib.hid hr3
  clear hb3 hr3
  go_wp2_with fail
  refine (l01Finite_any r _ w3 HR.out).mono ?_
  rw [HF.out]
  rintro e w4 ⟨rfl, hb4⟩
  have HB4 := Lib.hid (below_next HB3.out hb4)
  clear hb4
  go_wp2_with fail
  go_ret2
  exact ⟨r, rfl, HR.out, HB4.out⟩
end Go.Proofs.Ytfcphfdfpjmgiaa
