/- The best guess, told with a code: both sides. -/
import Derived.Test.YtonmdkhfongmhaaTges
namespace Go.Proofs.Ytonmdkhfongmhaa
open Go.RowKit

set_option maxRecDepth 100000 in
set_option maxHeartbeats 3200000 in
theorem BestGuess_any (gs : List Aq) (s : Si) (hs : s.Rng) (vg v : Value) (l : List Rd) (w : World) (hlen : l.length ≤ 1048576) (hgl : gs.length ≤ 1048576) (hg : AAt w vg gs) (hv : RAt w v l) :
    Calls Try.prog 37 #[vg, .agg s.cells, v] w (RetStr (bstR gs s l) w) := by
  have HS := Lib.hid hs
  have HV := Lib.hid hv
  have HG0 := Lib.hid hg
  clear hs hv hg
  go_enter Try.func37, Try.ntmps37
  go_wp2_with (with_reducible refine wpList_box rfl ?_)
  intro bS w1 hS1 hS2 hS3 hS4
  have HSi := Lib.hid hS3
  have HB := Lib.hid hS4
  clear hS3 hS4
  go_wp2_with ((with_reducible refine wpList_get HSi.out Try.underlying46 rfl (by kernel_rfl) ?_ ?_); rfl)
  refine (misfits_any gs s HS.out vg v l _ hlen hgl (HG0.out.far HB.out) (HV.out.far HB.out)).mono ?_
  obtain ⟨c, hc⟩ : ∃ c, gesF gs s l = c := ⟨_, rfl⟩
  have HC := Lib.hid hc
  unfold RetMis
  rw [hc]
  clear hc
  rintro e w2 ⟨u, rfl, hu, hb2⟩
  have HU := Lib.hid hu
  have HB2 := Lib.hid (below_next HB.out hb2)
  clear hb2 hu
  by_cases h0 : c = 0
  · subst h0
    obtain ⟨hm, h1, h20⟩ := ges_ok HC.out HV.out.rng
    have HF := Lib.hid (HU.out rfl)
    have hne : gs.map (misB s l) ≠ [] := by intro h; have := congrArg List.length h; simp at this; subst this; simp at h1
    have HAG := Lib.hid (misB_all hm)
    have HMEM := Lib.hid (leastB_mem hne)
    have hl64 : (gs.map (misB s l)).length ≤ 64 := by simp; omega
    have HR : Hid (bstR gs s l = ⟨fstI (leastB (gs.map (misB s l))) (gs.map (misB s l)), some (leastB (gs.map (misB s l))), 0⟩) := by show (if _ then _ else _) = _; rw [if_pos HC.out]
    have HSG := Lib.hid (gd_self (HAG.out _ HMEM.out)).1
    clear hm
    go_wp2_with fail
    refine (Min_any u _ w2 hl64 hne HF.out HAG.out).mono ?_
    rintro e3 w3 ⟨rfl, rfl⟩
    go_wp2_with fail
    refine (Index_any u _ _ w2 hl64 HF.out HAG.out HMEM.out).mono ?_
    rintro e4 w4 ⟨⟨i, rfl, hi1, hi2⟩, rfl⟩
    have HI := Lib.hid (fstI_eq hi1 hi2)
    have hil : i < (gs.map (misB s l)).length := (List.getElem?_eq_some_iff.1 hi1).1
    obtain ⟨aL, cap, rfl, _, hL⟩ := HF.out
    obtain ⟨gq, rfl, hq⟩ := hL i _ hi1
    have j1 : (i : Int) < ((gs.map (misB s l)).length : Int) := by omega
    have j2 : (i : Int) < (gs.length : Int) := by simpa using j1
    clear hL hi1 hi2
    go_wp2_with fail
    go_quiet (fail)
    go_wp2_with fail
    refine ret_tmp3 rfl rfl ?_
    exact ⟨leastB (gs.map (misB s l)), by rw [HR.out, HI.out]; rfl, by rw [HR.out]; exact HSG.out, below_drawn HB2.out _⟩
  · have HR : Hid (bstR gs s l = ⟨0, some 0, c⟩) := by show (if _ then _ else _) = _; rw [HC.out, if_neg h0]
    go_wp2_with fail
    refine ret_tmp3 rfl rfl ?_
    exact ⟨0, by rw [HR.out]; rfl, by rw [HR.out]; exact fb0, HB2.out⟩

set_option maxRecDepth 100000 in
set_option maxHeartbeats 3200000 in
theorem specBestGuess_any (gs : List Aq) (s : Si) (hs : s.Rng) (vg v : Value) (l : List Rd) (w : World) (hlen : l.length ≤ 1048576) (hgl : gs.length ≤ 1048576) (hg : AAt w vg gs) (hv : RAt w v l) :
    Calls Try.prog 35 #[vg, .agg s.cells, v] w (RetStr (bstR gs s l) w) := by
  have HS := Lib.hid hs
  have HV := Lib.hid hv
  have HG0 := Lib.hid hg
  clear hs hv hg
  go_enter Try.func35, Try.ntmps35
  go_wp2_with (with_reducible refine wpList_box rfl ?_)
  intro bS w1 hS1 hS2 hS3 hS4
  have HSi := Lib.hid hS3
  have HB := Lib.hid hS4
  clear hS3 hS4
  go_wp2_with ((with_reducible refine wpList_get HSi.out Try.underlying46 rfl (by kernel_rfl) ?_ ?_); rfl)
  refine (l04Guesses_any gs s HS.out vg v l _ hlen hgl (HG0.out.far HB.out) (HV.out.far HB.out)).mono ?_
  obtain ⟨c, hc⟩ : ∃ c, gesF gs s l = c := ⟨_, rfl⟩
  have HC := Lib.hid hc
  rw [hc]
  clear hc
  rintro e w2 ⟨rfl, hb2⟩
  have HSi2 := Lib.hid (HSi.out.later hb2)
  have HB2 := Lib.hid (below_next HB.out hb2)
  clear hb2
  by_cases h0 : c = 0
  · subst h0
    obtain ⟨hm, h1, h20⟩ := ges_ok HC.out HV.out.rng
    have HM := Lib.hid hm
    have hne : gs ≠ [] := by intro h; subst h; simp at h1
    have hne2 : gs.map (misB s l) ≠ [] := by simpa using hne
    have HSG := Lib.hid (gd_self (misB_all hm _ (leastB_mem hne2))).1
    have HR : Hid (bstR gs s l = ⟨fstI (leastB (gs.map (misB s l))) (gs.map (misB s l)), some (leastB (gs.map (misB s l))), 0⟩) := by show (if _ then _ else _) = _; rw [if_pos HC.out]
    clear hm hne2
    go_wp2_with ((with_reducible refine wpList_get HSi2.out Try.underlying46 rfl (by kernel_rfl) ?_ ?_); rfl)
    refine (l04Best_any gs s vg v l w2 hne (by omega) HM.out (HG0.out.far HB2.out) (HV.out.far HB2.out)).mono ?_
    rintro e3 w3 ⟨rfl, hb3⟩
    have HB3 := Lib.hid (below_next HB2.out hb3)
    clear hb3
    go_wp2_with fail
    refine ret_tmp3 rfl rfl ?_
    exact ⟨leastB (gs.map (misB s l)), by rw [HR.out]; rfl, by rw [HR.out]; exact HSG.out, HB3.out⟩
  · have HR : Hid (bstR gs s l = ⟨0, some 0, c⟩) := by show (if _ then _ else _) = _; rw [HC.out, if_neg h0]
    go_wp2_with fail
    refine ret_tmp3 rfl rfl ?_
    exact ⟨0, by rw [HR.out]; rfl, by rw [HR.out]; exact fb0, HB2.out⟩
end Go.Proofs.Ytonmdkhfongmhaa
