/- The laws' marks in lists of floats and of wells; whether two lists of floats are the same. -/
import Derived.Test.YtbhnnglpakdigaaWat
namespace Go.Proofs.Ytbhnnglpakdigaa
open Go.RowKit

theorem FListAt.far {w2 w' : World} {v : Value} {l : List Nat} (h : FListAt w2 v l) (hb : Below w2.heap.size w2 w') : FListAt w' v l := by
  obtain ⟨a, cap, e, hc, hL⟩ := h
  refine ⟨a, cap, e, hc, fun j c hc => ?_⟩
  obtain ⟨gq, e2, hq⟩ := hL j c hc
  exact ⟨gq, e2, cell_below hb hq⟩

def CntW (n : Nat) (w : World) (v5 : Value) (wr : World) : Prop := ∃ j : Nat, j ≤ n ∧ v5 = .int .i64 j ∧ Below w.heap.size w wr

set_option maxRecDepth 100000 in
set_option maxHeartbeats 800000 in
theorem eqFloat32S_any (v v' : Value) (l l' : List Nat) (w : World) (hlen : l.length ≤ 64) (hll : l.map fb = l'.map fb) (hv : FListAt w v l) (hv' : FListAt w v' l') :
    Calls Try.prog 43 #[v, v'] w (RetB true w) := by
  obtain ⟨aL, cap, rfl, _, hL⟩ := hv
  obtain ⟨aL', cap', rfl, _, hL'⟩ := hv'
  have hl2 : l'.length = l.length := by have := congrArg List.length hll; simpa using this.symm
  have HL := Lib.hid hL
  have HL' := Lib.hid hL'
  have HLL := Lib.hid hll
  rw [hl2]
  clear hL hL' hll
  go_enter Try.func43, Try.ntmps43
  go_wp2_with fail
  go_loopw [5] (fun v5 wr => CntW l.length w v5 wr) (fun v5 _ => l.length - (intOf v5).toNat)
  case atStart => exact ⟨0, by omega, rfl, Below.refl _ _⟩
  case round =>
    obtain ⟨j, hj, rfl, hB⟩ := hrel
    have HB := Lib.hid hB
    clear hB
    by_cases hlt : j < l.length
    · obtain ⟨c, hc⟩ : ∃ c, l[j]? = some c := ⟨_, List.getElem?_eq_getElem hlt⟩
      obtain ⟨c', hc'⟩ : ∃ c', l'[j]? = some c' := ⟨_, List.getElem?_eq_getElem (by omega)⟩
      obtain ⟨gq, rfl, hq⟩ := HL.out j c hc
      obtain ⟨gq', rfl, hq'⟩ := HL'.out j c' hc'
      have hdd : Hid (wid (fb c) = wid (fb c')) := by
        have := congrArg (fun l => l[j]?) HLL.out
        simp [hc, hc'] at this
        show wid (fb c) = wid (fb c')
        rw [this]
      have c1 : ∀ z, (ext wr z).cell? ⟨gq, j, none⟩ = some (.float .f32 c) := fun z => ext_cell wr z (cell_below HB.out hq)
      have c2 : ∀ z, (ext wr z).cell? ⟨gq', j, none⟩ = some (.float .f32 c') := fun z => ext_cell wr z (cell_below HB.out hq')
      have j1 : (j : Int) < (l.length : Int) := by omega
      clear hq hq' hc hc'
      go_wp2_with fail
      refine wp_soft (SV (.bool true)) (by kernel_rfl) (by kernel_rfl) ?_
      repeat (first | ((with_reducible refine soft_wide ?_ ?_ ?_ ?_ ?_); (exact fun _ n h => h.drewN n); (exact rfl); (exact Try.underlying40); (exact rfl); intro r hr) | (refine soft_step (fun K hK => ?_); go_simp; (try go_bits); refine hK _ ?_; clear hK K) | (refine soft_step (fun K hK => ?_); go_simp; refine ⟨_, _, ⟨rfl, rfl⟩, fun zz => (sameFloat_any _ _ _ ?_).mono ?_, ?_⟩; (rename_i d1 h1; exact h1.out.trans (hdd.out.trans hr.out.symm)); (rintro e w1 ⟨he, hb⟩; exact ⟨_, he, rfl, hb⟩); rintro v rfl; refine hK _ ?_; clear hK K))
      refine soft_nil ?_
      rintro w5 hw5
      have HB5 := Lib.hid (below_next HB.out hw5.below)
      clear hw5
      go_wp2_with fail
      go_roundw
      case rel => exact ⟨j + 1, by omega, by go_num, HB5.out⟩
      case measure => simp [intOf]; omega
    · have j1 : ¬ (j : Int) < (l.length : Int) := by omega
      go_wp2_with fail
      go_ret
      exact ⟨rfl, HB.out⟩

/-- A list that holds 1, 2, .. as floats. -/
def FCounts (w : World) (v : Value) (n : Nat) : Prop :=
  ∃ a cap, v = .slice a n cap ∧ ∀ j : Nat, j < n → ∃ gq, a = some ⟨gq, 0, none⟩ ∧ w.cell? ⟨gq, j, none⟩ = some (.float .f32 (floatOfInt .f32 (1 + (j : Int))))
theorem FCounts.far {w2 w' : World} {v : Value} {n : Nat} (h : FCounts w2 v n) (hb : Below w2.heap.size w2 w') : FCounts w' v n := by
  obtain ⟨a, cap, e, hL⟩ := h
  refine ⟨a, cap, e, fun j hj => ?_⟩
  obtain ⟨gq, e2, hq⟩ := hL j hj
  exact ⟨gq, e2, cell_below hb hq⟩

theorem feq_self (n : Int) : feq (fb (floatOfInt .f32 n)) (fb (floatOfInt .f32 n)) = true := by
  rw [fb_ofI]
  have hn : (Ieee.single.read (Ieee.single.nearest (n < 0) n.natAbs 0)).isNaN = false := write_num Ieee.single (.number (n < 0) n.natAbs 0) rfl
  have : ford (ofI n) (ofI n) = some .eq := order_self hn
  unfold feq
  rw [this]; rfl

def FHeldRel (n : Nat) (w : World) (v1 v5 : Value) (wr : World) : Prop := ∃ j : Nat, j ≤ n ∧ v5 = .int .i64 j ∧ v1 = .int .i64 (1 + (j : Int)) ∧ Below w.heap.size w wr

set_option maxRecDepth 100000 in
set_option maxHeartbeats 800000 in
theorem heldFloat_any (v : Value) (n : Nat) (w : World) (hn : n ≤ 64) (hv : FCounts w v n) :
    Calls Try.prog 46 #[v, .int .i64 1] w fun e w' => e = .returned (.int .i64 (1 + (n : Int))) ∧ Below w.heap.size w w' := by
  obtain ⟨aL, cap, rfl, hL⟩ := hv
  have HL := Lib.hid hL
  have hne := order_ne
  clear hL
  go_enter Try.func46, Try.ntmps46
  go_wp2_with fail
  go_loopw [1, 5] (fun v1 v5 wr => FHeldRel n w v1 v5 wr) (fun _ v5 _ => n - (intOf v5).toNat)
  case atStart => exact ⟨0, by omega, rfl, by simp, Below.refl _ _⟩
  case round =>
    obtain ⟨j, hj, rfl, rfl, hB⟩ := hrel
    have HB := Lib.hid hB
    clear hB
    by_cases hlt : j < n
    · obtain ⟨gq, rfl, hq⟩ := HL.out j hlt
      have h1 := cell_below HB.out hq
      have j1 : (j : Int) < (n : Int) := by omega
      have hj64 : j < 64 := by omega
      have hfe := feq_self (1 + (j : Int))
      clear hq
      go_wp2_with fail
      go_roundw
      case rel => exact ⟨j + 1, by omega, by go_num, by go_num, HB.out⟩
      case measure => simp [intOf]; omega
    · obtain rfl : j = n := by omega
      go_wp2_with fail
      go_ret
      exact ⟨rfl, HB.out⟩

def FMarkRel (n g cap : Nat) (w : World) (v1 v5 : Value) (wr : World) : Prop :=
  ∃ (j : Nat) (cur : Array Value), j ≤ n ∧ v5 = .int .i64 j ∧ v1 = .int .i64 (1 + (j : Int)) ∧ Blk wr g cur 22 ∧ cur.size = cap ∧ (∀ i : Nat, i < j → cur[i]? = some (.float .f32 (floatOfInt .f32 (1 + (i : Int))))) ∧ w.grownBy wr (some g)

set_option maxRecDepth 100000 in
set_option maxHeartbeats 800000 in
theorem markFloat_any (g cap n : Nat) (cur0 : Array Value) (w : World) (hn : n ≤ 64) (hcap : n ≤ cap) (hsz : cur0.size = cap) (hg : Blk w g cur0 22) :
    Calls Try.prog 45 #[.slice (some ⟨g, 0, none⟩) n cap, .int .i64 1] w fun e w' => e = .returned (.int .i64 (1 + (n : Int))) ∧ FCounts w' (.slice (some ⟨g, 0, none⟩) n cap) n ∧ w.grownBy w' (some g) := by
  have HG0 := Lib.hid hg
  clear hg
  go_enter Try.func45, Try.ntmps45
  go_wp2_with fail
  go_loopw [1, 5] (fun v1 v5 wr => FMarkRel n g cap w v1 v5 wr) (fun _ v5 _ => n - (intOf v5).toNat)
  case atStart => exact ⟨0, cur0, by omega, rfl, by simp, HG0.out, hsz, fun i hi => absurd hi (by omega), grown_refl _ _⟩
  case round =>
    obtain ⟨j, cur, hj, rfl, rfl, hB, hs, hm, hgr⟩ := hrel
    have HB := Lib.hid hB
    have HM := Lib.hid hm
    have HGR := Lib.hid hgr
    clear hB hm hgr
    by_cases hlt : j < n
    · have j1 : (j : Int) < (n : Int) := by omega
      have hj64 : j < 64 := by omega
      go_wp2_with ((with_reducible refine wpList_gateS ?_); refine wpList_put1 (v := .float .f32 (floatOfInt .f32 (1 + (j : Int)))) size32 HB.out (by omega) rfl rfl rfl rfl ?_)
      intro w3 s3 b3 k3
      have B3 := Lib.hid b3
      have K3 := Lib.hid (grown_trans HGR.out k3)
      clear b3 k3
      go_wp2_with fail
      go_roundw
      case rel =>
        refine ⟨j + 1, _, by omega, by go_num, by go_num, B3.out, by simpa using hs, fun i hi => ?_, K3.out⟩
        rw [Array.getElem?_setIfInBounds]
        by_cases e : j = i
        · subst e; rw [if_pos rfl, if_pos (by omega)]
        · rw [if_neg e]; exact HM.out i (by omega)
      case measure => simp [intOf]; omega
    · obtain rfl : j = n := by omega
      go_wp2_with fail
      go_ret
      exact ⟨rfl, ⟨_, cap, rfl, fun i hi => ⟨g, rfl, HB.out.at (HM.out i hi)⟩⟩, HGR.out⟩

set_option maxRecDepth 100000 in
set_option maxHeartbeats 800000 in
theorem markFloat_nil (w : World) : Calls Try.prog 45 #[.slice none 0 0, .int .i64 1] w fun e w' => e = .returned (.int .i64 1) ∧ w = w' := by
  go_enter Try.func45, Try.ntmps45
  go_wp2_with fail
  go_loopw [1, 5] (fun v1 v5 wr => v1 = .int .i64 1 ∧ v5 = .int .i64 0 ∧ w = wr) (fun _ _ _ => 0)
  case atStart => exact ⟨rfl, rfl, rfl⟩
  case round =>
    obtain ⟨rfl, rfl, rfl⟩ := hrel
    go_wp2_with fail
    go_ret
    exact ⟨rfl, rfl⟩

theorem markFloat_owns {w : World} {base : Nat} {v : Value} {l : List Nat} (h : w.ownsRow base 22 1 v l.length (flts l)) (hn : l.length ≤ 64) :
    Calls Try.prog 45 #[v, .int .i64 1] w fun e w' => e = .returned (.int .i64 (1 + (l.length : Int))) ∧ FCounts w' v l.length ∧ Below base w w' := by
  obtain ⟨h1, h2 | ⟨g, cap, cur, rfl, hb, hg, hc, hm, hs, _⟩⟩ := h
  · obtain ⟨rfl, h0⟩ := h2
    refine (markFloat_nil w).mono ?_
    rintro e w' ⟨rfl, rfl⟩
    rw [h0]
    exact ⟨by simp, ⟨none, 0, rfl, fun j hj => absurd hj (by omega)⟩, Below.refl _ _⟩
  · refine (markFloat_any g cap l.length cur w hn hc (by omega) hg).mono ?_
    rintro e w' ⟨rfl, hc', hgr⟩
    have hlt : g < w.heap.size := (Array.getElem?_eq_some_iff.1 hg).1
    refine ⟨rfl, hc', ?_⟩
    exact ⟨hgr.os, hgr.tape, hgr.output, by have := hgr.size; omega, fun k hk => hgr.block k (by omega) (by simp; omega)⟩

def WMarkRel (n g : Nat) (w : World) (v1 v5 : Value) (wr : World) : Prop :=
  ∃ (j : Nat) (cur : Array Value), j ≤ n ∧ v5 = .int .i64 j ∧ v1 = .int .i64 (1 + 3 * (j : Int)) ∧ Blk wr g cur 32 ∧ cur.size = n * 3 ∧ w.grownBy wr (some g)

set_option maxRecDepth 100000 in
set_option maxHeartbeats 1600000 in
theorem markWellS_any (g n : Nat) (cur0 : Array Value) (w : World) (hn : n ≤ 1048576) (hsz : cur0.size = n * 3) (hg : Blk w g cur0 32) :
    Calls Try.prog 44 #[.slice (some ⟨g, 0, none⟩) n n, .int .i64 1] w fun e w' => e = .returned (.int .i64 (1 + 3 * (n : Int))) ∧ w.grownBy w' (some g) := by
  have HG0 := Lib.hid hg
  clear hg
  go_enter Try.func44, Try.ntmps44
  go_wp2_with fail
  go_loopw [1, 5] (fun v1 v5 wr => WMarkRel n g w v1 v5 wr) (fun _ v5 _ => n - (intOf v5).toNat)
  case atStart => exact ⟨0, cur0, by omega, rfl, by simp, HG0.out, hsz, grown_refl _ _⟩
  case round =>
    obtain ⟨j, cur, hj, rfl, rfl, hB, hs, hgr⟩ := hrel
    have HB := Lib.hid hB
    have HGR := Lib.hid hgr
    clear hB hgr
    by_cases hlt : j < n
    · have j1 : (j : Int) < (n : Int) := by omega
      go_wp2_with ((with_reducible refine wpList_gateS ?_); refine wpList_put1 (v := .int .i8 _) size8 HB.out (by show j * 3 < _; omega) rfl rfl rfl rfl ?_)
      intro w3 s3 b3 k3
      have K3 := Lib.hid (grown_trans HGR.out k3)
      clear k3
      go_wp2_with ((with_reducible refine wpList_gateS ?_); refine wpList_put1 (i := j * 3 + 1) (v := .int .i8 _) size8 b3 (by rw [Array.size_setIfInBounds]; omega) rfl rfl rfl rfl ?_)
      intro w4 s4 b4 k4
      have K4 := Lib.hid (grown_trans K3.out k4)
      clear b3 k4
      go_wp2_with ((with_reducible refine wpList_gateS ?_); refine wpList_put1 (i := j * 3 + 2) (v := .float .f32 _) size32 b4 (by rw [Array.size_setIfInBounds, Array.size_setIfInBounds]; omega) rfl rfl rfl rfl ?_)
      intro w6 s6 b6 k6
      have K6 := Lib.hid (grown_trans K4.out k6)
      have B6 := Lib.hid b6
      clear b4 b6 k6
      go_wp2_with fail
      go_roundw
      case rel => exact ⟨j + 1, _, by omega, by go_num, by go_num, B6.out, by simpa using hs, K6.out⟩
      case measure => simp [intOf]; omega
    · obtain rfl : j = n := by omega
      go_wp2_with fail
      go_ret
      exact ⟨rfl, HGR.out⟩
end Go.Proofs.Ytbhnnglpakdigaa
