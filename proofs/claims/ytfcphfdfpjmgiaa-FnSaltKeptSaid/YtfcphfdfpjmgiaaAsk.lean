/- The code of a ground and a cell. -/
import Derived.Test.YtfcphfdfpjmgiaaStepS
namespace Go.Proofs.Ytfcphfdfpjmgiaa
open Go.RowKit

def askC (m : M) (z : Int) : Int := if okI m then (if decide (0 ≤ z ∧ z ≤ 63) && hasB m.wide m.high z.toNat then 0 else 2) else 1

set_option maxHeartbeats 400000 in
theorem l01Is_out (b o : Nat) (z : Int) (w : World) (hz : ¬ (0 ≤ z ∧ z ≤ 63)) :
    Calls Try.prog 111 #[.pointer (some ⟨b, o, none⟩), .int .i64 z] w fun e w' => e = .returned (.bool false) ∧ w = w' := by
  go_enter Try.func111, Try.ntmps111
  go_wp2_with (go_at_call 96; refine (l00In_no _ _ _ _ hz).mono ?_; rintro e w' ⟨rfl, rfl⟩)
  go_ret
  exact ⟨rfl, rfl⟩

set_option maxRecDepth 100000 in
set_option maxHeartbeats 800000 in
theorem l01Asked_any (b : Nat) (t : TypeId) (z : Int) (g : G) (w : World) (hr : g.Rng) (hg : Blk w b (arrG g) t) :
    Calls Try.prog 144 #[.pointer (some ⟨b, 0, none⟩), .int .i64 z] w (RetI .i64 (askC g.m z) w) := by
  cases hok : okI g.m
  · have HA : Hid (askC g.m z = 1) := by show _ = _; unfold askC; rw [hok]; rfl
    have HOK := Lib.hid hok
    clear hok
    go_enter Try.func144, Try.ntmps144
    go_wp2_with fail
    refine (l01Ok_any b 0 g w hr (GAt.of_blk hg)).mono ?_
    rw [HOK.out]
    rintro e w1 ⟨rfl, hb1⟩
    have HB := Lib.hid hb1
    clear hb1 hg
    go_wp2_with fail
    go_ret
    exact ⟨ret_int HA.out.symm, HB.out⟩
  · have HOK := Lib.hid hok
    by_cases hz : 0 ≤ z ∧ z ≤ 63
    · obtain ⟨k, rfl⟩ : ∃ k : Nat, z = k := ⟨z.toNat, by omega⟩
      have hk : k < 64 := by omega
      cases hh : hasB g.wide g.high k
      · have HA : Hid (askC g.m k = 2) := by show _ = _; unfold askC; rw [hok, decide_eq_true hz]; show (if (true && hasB g.wide g.high k) = true then _ else _) = _; rw [hh]; rfl
        have HH := Lib.hid hh
        clear hok hh hz
        go_enter Try.func144, Try.ntmps144
        go_wp2_with fail
        refine (l01Ok_any b 0 g w hr (GAt.of_blk hg)).mono ?_
        rw [HOK.out]
        rintro e w1 ⟨rfl, hb1⟩
        have HB := Lib.hid hb1
        have HG := Lib.hid (GAt.of_blk (hg.later hb1))
        clear hb1 hg
        go_wp2_with (go_at_call 111; refine (l01Is_any b 0 k g _ hk hr HG.out).mono ?_; rw [HH.out]; rintro e w' ⟨rfl, rfl⟩)
        go_ret
        exact ⟨ret_int HA.out.symm, HB.out⟩
      · have HA : Hid (askC g.m k = 0) := by show _ = _; unfold askC; rw [hok, decide_eq_true hz]; show (if (true && hasB g.wide g.high k) = true then _ else _) = _; rw [hh]; rfl
        have HH := Lib.hid hh
        clear hok hh hz
        go_enter Try.func144, Try.ntmps144
        go_wp2_with fail
        refine (l01Ok_any b 0 g w hr (GAt.of_blk hg)).mono ?_
        rw [HOK.out]
        rintro e w1 ⟨rfl, hb1⟩
        have HB := Lib.hid hb1
        have HG := Lib.hid (GAt.of_blk (hg.later hb1))
        clear hb1 hg
        go_wp2_with (go_at_call 111; refine (l01Is_any b 0 k g _ hk hr HG.out).mono ?_; rw [HH.out]; rintro e w' ⟨rfl, rfl⟩)
        go_ret
        exact ⟨ret_int HA.out.symm, HB.out⟩
    · have HA : Hid (askC g.m z = 2) := by show _ = _; unfold askC; rw [hok, decide_eq_false hz]; rfl
      clear hok
      go_enter Try.func144, Try.ntmps144
      go_wp2_with fail
      refine (l01Ok_any b 0 g w hr (GAt.of_blk hg)).mono ?_
      rw [HOK.out]
      rintro e w1 ⟨rfl, hb1⟩
      have HB := Lib.hid hb1
      clear hb1 hg
      go_wp2_with (go_at_call 111; refine (l01Is_out b 0 z _ hz).mono ?_; rintro e w' ⟨rfl, rfl⟩)
      go_ret
      exact ⟨ret_int HA.out.symm, HB.out⟩

set_option maxRecDepth 100000 in
set_option maxHeartbeats 800000 in
theorem cellFault_any (b : Nat) (t : TypeId) (z : Int) (g : G) (w : World) (hr : g.Rng) (hg : Blk w b (arrG g) t) :
    Calls Try.prog 114 #[.pointer (some ⟨b, 0, none⟩), .int .i64 z] w (RetI .i64 (askC g.m z) w) := by
  cases hok : okI g.m
  · have HA : Hid (askC g.m z = 1) := by show _ = _; unfold askC; rw [hok]; rfl
    have HOK := Lib.hid hok
    clear hok
    go_enter Try.func114, Try.ntmps114
    go_wp2_with ((with_reducible refine wpList_getG hg ?_ ?_); rfl)
    refine (ValidGround_any g w hr).mono ?_
    rw [HOK.out]
    rintro e w1 ⟨rfl, hb1⟩
    have HB := Lib.hid hb1
    clear hb1 hg
    go_wp2_with fail
    go_ret
    exact ⟨ret_int HA.out.symm, HB.out⟩
  · have HOK := Lib.hid hok
    by_cases hz : 0 ≤ z ∧ z ≤ 63
    · obtain ⟨k, rfl⟩ : ∃ k : Nat, z = k := ⟨z.toNat, by omega⟩
      have hk : k < 64 := by omega
      cases hh : hasB g.wide g.high k
      · have HA : Hid (askC g.m k = 2) := by show _ = _; unfold askC; rw [hok, decide_eq_true hz]; show (if (true && hasB g.wide g.high k) = true then _ else _) = _; rw [hh]; rfl
        have HH := Lib.hid hh
        clear hok hh hz
        go_enter Try.func114, Try.ntmps114
        go_wp2_with ((with_reducible refine wpList_getG hg ?_ ?_); rfl)
        refine (ValidGround_any g w hr).mono ?_
        rw [HOK.out]
        rintro e w1 ⟨rfl, hb1⟩
        have HB := Lib.hid hb1
        have HG := Lib.hid (GAt.of_blk (hg.later hb1))
        clear hb1 hg
        go_wp2_with (first | (go_at_call 103; refine (in_yes _ _ _ _ (by omega) (by omega)).mono ?_; rintro e w' ⟨rfl, rfl⟩) | (go_at_call 178; refine (has_any b 0 k g _ hk hr HG.out).mono ?_; rw [HH.out]; rintro e w' ⟨rfl, rfl⟩))
        go_ret
        exact ⟨ret_int HA.out.symm, HB.out⟩
      · have HA : Hid (askC g.m k = 0) := by show _ = _; unfold askC; rw [hok, decide_eq_true hz]; show (if (true && hasB g.wide g.high k) = true then _ else _) = _; rw [hh]; rfl
        have HH := Lib.hid hh
        clear hok hh hz
        go_enter Try.func114, Try.ntmps114
        go_wp2_with ((with_reducible refine wpList_getG hg ?_ ?_); rfl)
        refine (ValidGround_any g w hr).mono ?_
        rw [HOK.out]
        rintro e w1 ⟨rfl, hb1⟩
        have HB := Lib.hid hb1
        have HG := Lib.hid (GAt.of_blk (hg.later hb1))
        clear hb1 hg
        go_wp2_with (first | (go_at_call 103; refine (in_yes _ _ _ _ (by omega) (by omega)).mono ?_; rintro e w' ⟨rfl, rfl⟩) | (go_at_call 178; refine (has_any b 0 k g _ hk hr HG.out).mono ?_; rw [HH.out]; rintro e w' ⟨rfl, rfl⟩))
        go_ret
        exact ⟨ret_int HA.out.symm, HB.out⟩
    · have HA : Hid (askC g.m z = 2) := by show _ = _; unfold askC; rw [hok, decide_eq_false hz]; rfl
      clear hok
      go_enter Try.func114, Try.ntmps114
      go_wp2_with ((with_reducible refine wpList_getG hg ?_ ?_); rfl)
      refine (ValidGround_any g w hr).mono ?_
      rw [HOK.out]
      rintro e w1 ⟨rfl, hb1⟩
      have HB := Lib.hid hb1
      clear hb1 hg
      go_wp2_with (go_at_call 103; refine (in_no _ _ _ _ hz).mono ?_; rintro e w' ⟨rfl, rfl⟩)
      go_ret
      exact ⟨ret_int HA.out.symm, HB.out⟩
end Go.Proofs.Ytfcphfdfpjmgiaa
