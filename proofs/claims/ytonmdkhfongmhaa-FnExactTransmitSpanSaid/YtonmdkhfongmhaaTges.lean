/- The code of guesses, and their misfits: both sides. -/
import Derived.Test.YtonmdkhfongmhaaTbest
namespace Go.Proofs.Ytonmdkhfongmhaa
open Go.RowKit

def GeRel (B : Bool) (gs : List Aq) (w : World) (v7 v8 : Value) (wr : World) : Prop :=
  ∃ (k : Bool) (i : Nat), i ≤ gs.length ∧ v8 = .int .i64 i ∧ v7 = .bool k ∧ (k = true → B = true ∧ ∀ e ∈ gs.take i, e.ok = true) ∧ (k = false → (B && gs.all Aq.ok) = false) ∧ Below w.heap.size w wr
theorem ges_bad {gs : List Aq} {s : Si} {l : List Rd} (h : ((s.ok && okR l) && gs.all Aq.ok) = false) : gesF gs s l = 1 := by
  unfold gesF askF
  rw [if_neg]
  rw [if_neg]
  · decide
  · intro h2
    rw [show (gs.all Aq.ok && s.ok && okR l) = ((s.ok && okR l) && gs.all Aq.ok) by cases s.ok <;> cases okR l <;> cases gs.all Aq.ok <;> rfl, h] at h2
    cases h2
theorem ges_good {gs : List Aq} {s : Si} {l : List Rd} (h : (s.ok && okR l) = true) (h2 : ∀ e ∈ gs, Aq.ok e = true) : gesF gs s l = if 1 ≤ gs.length ∧ gs.length ≤ 20 then 0 else 2 := by
  unfold gesF askF
  rw [if_pos]
  rw [if_pos]
  rw [show (gs.all Aq.ok && s.ok && okR l) = ((s.ok && okR l) && gs.all Aq.ok) by cases s.ok <;> cases okR l <;> cases gs.all Aq.ok <;> rfl, h, List.all_eq_true.2 h2]
  rfl

set_option maxRecDepth 100000 in
set_option maxHeartbeats 3200000 in
theorem l04Guesses_any (gs : List Aq) (s : Si) (hs : s.Rng) (vg v : Value) (l : List Rd) (w : World) (hlen : l.length ≤ 1048576) (hgl : gs.length ≤ 1048576) (hg : AAt w vg gs) (hv : RAt w v l) :
    Calls Try.prog 82 #[vg, .agg s.cells, v] w fun e w' => e = .returned (.int .i64 (gesF gs s l)) ∧ Below w.heap.size w w' := by
  have HS := Lib.hid hs
  have HV := Lib.hid hv
  clear hs hv
  cases hso : s.ok
  all_goals
    go_enter Try.func82, Try.ntmps82
    go_wp2_with (with_reducible refine wpList_box rfl ?_)
    intro bS w1 hS1 hS2 hS3 hS4
    obtain ⟨aL, cap, rfl, hL⟩ := hg.far hS4
    have HL := Lib.hid hL
    have HSi := Lib.hid hS3
    have HB := Lib.hid hS4
    have HV1 := Lib.hid (HV.out.far hS4)
    have HSO := Lib.hid hso
    clear hL hS3 hS4 hg hso
    go_wp2_with (first | ((with_reducible refine wpList_getgd ?_ HSi.out Try.underlying46 rfl (by kernel_rfl) ?_ ?_); (exact rfl); rfl) | (go_at_call 69; refine (l04Site_any s HS.out _).mono ?_; rw [HSO.out]; rintro e w3 ⟨rfl, hb3⟩; have HX3 := Lib.hid (below_next HB.out hb3); have HV3 := Lib.hid (HV1.out.far hb3); have HD3 := Lib.hid hb3) | (go_at_call 47; refine (l04Ok_any v l _ hlen HV3.out).mono ?_; rintro e w4 ⟨rfl, hb4⟩; have HX3 := Lib.hid (below_next HX3.out hb4); have HD3 := Lib.hid (below_next HD3.out hb4)))
    go_loopw [7, 8] (fun v7 v8 wr => GeRel (s.ok && okR l) gs w1 v7 v8 wr) (fun _ v8 _ => gs.length - (intOf v8).toNat)
    case atStart =>
      refine ⟨s.ok && okR l, 0, by omega, rfl, by rw [HSO.out]; rfl, fun h => ⟨h, by simp⟩, fun h => by rw [h]; rfl, HD3.out⟩
    case round =>
      obtain ⟨k, i, hi, rfl, rfl, hk1, hk2, hB⟩ := hrel
      have HX := Lib.hid hB
      have HK1 := Lib.hid hk1
      have HK2 := Lib.hid hk2
      clear hB hk1 hk2
      cases k
      · have HR := Lib.hid (ges_bad (HK2.out rfl))
        go_wp2_with fail
        all_goals
          go_ret
          exact ⟨by rw [HR.out]; rfl, below_next HB.out HX.out⟩
      · obtain ⟨hb, hall⟩ := HK1.out rfl
        have HBT := Lib.hid hb
        have HALL := Lib.hid hall
        clear hb hall
        by_cases hlt : i < gs.length
        · obtain ⟨e, he⟩ : ∃ e, gs[i]? = some e := ⟨_, List.getElem?_eq_getElem hlt⟩
          obtain ⟨hrng, gq, rfl, hq⟩ := HL.out i e he
          have HQ := Lib.hid (range_below hq HX.out)
          have HE := Lib.hid he
          have j1 : (i : Int) < (gs.length : Int) := by omega
          clear hq he
          go_wp2_with (first | ((with_reducible refine wpList_gateL ?_); refine wpList_load_mid rfl _ _ rfl gq (i * 2) rfl e.cells _ HQ.out Try.underlying42 rfl sizeAq ?_) | (go_at_call 68; refine (l03Aquifer_any e.T e.S _).mono ?_; rintro e2 w2 ⟨rfl, hb2⟩))
          go_roundw
          case rel =>
            refine ⟨okA (fb e.T) (fb e.S), i + 1, by omega, by go_num, rfl, fun h => ⟨HBT.out, fun d hd => ?_⟩, fun h => ?_, below_next HX.out hb2⟩
            · rw [take_more' HE.out, List.mem_append] at hd
              rcases hd with h2 | h2
              · exact HALL.out d h2
              · rw [List.mem_singleton.1 h2]; exact h
            · have : gs.all Aq.ok = false := by
                rw [List.all_eq_false]
                exact ⟨e, List.mem_of_getElem? HE.out, by show ¬ okA (fb e.T) (fb e.S) = true; rw [h]; decide⟩
              rw [this, Bool.and_false]
          case measure => simp [intOf]; omega
        · have j1 : ¬ (i : Int) < (gs.length : Int) := by omega
          have HR := Lib.hid (ges_good (gs := gs) HBT.out (fun e he => HALL.out e (by rw [List.take_of_length_le (by omega)]; exact he)))
          by_cases hin : 1 ≤ gs.length ∧ gs.length ≤ 20
          · rw [if_pos hin] at HR
            go_wp2_with (go_at_call 70; refine (l00In_yes _ _ _ _ (by omega) (by omega)).mono ?_; rintro e w' ⟨rfl, rfl⟩)
            go_ret
            exact ⟨by rw [HR.out]; rfl, below_next HB.out HX.out⟩
          · rw [if_neg hin] at HR
            go_wp2_with (go_at_call 70; refine (l00In_no _ _ _ _ (by omega)).mono ?_; rintro e w' ⟨rfl, rfl⟩)
            go_ret
            exact ⟨by rw [HR.out]; rfl, below_next HB.out HX.out⟩

def MfRel (gs : List Aq) (s : Si) (l : List Rd) (w : World) (v9 v26 : Value) (wr : World) : Prop :=
  ∃ j : Nat, j ≤ gs.length ∧ v26 = .int .i64 j ∧ wr.ownsRow w.heap.size 24 1 v9 j (flts ((gs.take j).map (misB s l))) ∧ Below w.heap.size w wr
/-- What misfits are told. -/
def RetMis (gs : List Aq) (s : Si) (l : List Rd) (w : World) (e : Ending) (w' : World) : Prop :=
  ∃ u, e = .returned (.tuple #[u, .int .i64 (gesF gs s l)]) ∧ (gesF gs s l = 0 → FListAt w' u (gs.map (misB s l))) ∧ Below w.heap.size w w'

set_option maxRecDepth 100000 in
set_option maxHeartbeats 3200000 in
theorem misfits_any (gs : List Aq) (s : Si) (hs : s.Rng) (vg v : Value) (l : List Rd) (w : World) (hlen : l.length ≤ 1048576) (hgl : gs.length ≤ 1048576) (hg : AAt w vg gs) (hv : RAt w v l) :
    Calls Try.prog 83 #[vg, .agg s.cells, v] w (RetMis gs s l w) := by
  obtain ⟨i0, hi, hz0, hz1, hz2⟩ := info_parts Try.info24
  have HS := Lib.hid hs
  have HV := Lib.hid hv
  have HG0 := Lib.hid hg
  clear hs hv hg
  go_enter Try.func83, Try.ntmps83
  go_wp2_with (with_reducible refine wpList_box rfl ?_)
  intro bS w1 hS1 hS2 hS3 hS4
  have HSi := Lib.hid hS3
  have HB := Lib.hid hS4
  clear hS3 hS4
  go_wp2_with ((with_reducible refine wpList_get HSi.out Try.underlying46 rfl (by kernel_rfl) ?_ ?_); rfl)
  refine (fitFault_any s HS.out v vg l gs _ hlen (by omega) (HV.out.far HB.out) (HG0.out.far HB.out)).mono ?_
  obtain ⟨c, hc⟩ : ∃ c, askF (gs.all Aq.ok) s l = c := ⟨_, rfl⟩
  have HC := Lib.hid hc
  rw [hc]
  clear hc
  rintro e w2 ⟨rfl, hb2⟩
  have HSi2 := Lib.hid (HSi.out.later hb2)
  have HB2 := Lib.hid (below_next HB.out hb2)
  have HV2 := Lib.hid (HV.out.far HB2.out)
  have HG2 := Lib.hid (HG0.out.far HB2.out)
  clear hb2
  by_cases h0 : c = 0
  · subst h0
    by_cases hin : 1 ≤ gs.length ∧ gs.length ≤ 20
    · have HR : Hid (gesF gs s l = 0) := by show (if _ then _ else _) = _; rw [if_pos HC.out, if_pos hin]
      obtain ⟨hm, _⟩ := ges_ok HR.out HV.out.rng
      have HM := Lib.hid hm
      obtain ⟨aL, cap, rfl, hL⟩ := HG2.out
      have HL := Lib.hid hL
      clear hm hL
      go_wp2_with (go_at_call 80; refine (in_yes _ _ _ _ (by omega) (by omega)).mono ?_; rintro e w' ⟨rfl, rfl⟩)
      go_loopw [9, 26] (fun v9 v26 wr => MfRel gs s l w2 v9 v26 wr) (fun _ v26 _ => gs.length - (intOf v26).toNat)
      case atStart => exact ⟨0, by omega, rfl, World.ownsRow_lit w2 #[] 0 (Nat.le_refl _) (by simp [maxLen]) rfl, (Below.refl _ _).alloc (Nat.le_refl _) _⟩
      case round =>
        obtain ⟨j, hj, rfl, hown, hB⟩ := hrel
        have HO := Lib.hid hown
        have HX := Lib.hid hB
        clear hown hB
        by_cases hlt : j < gs.length
        · obtain ⟨e, he⟩ : ∃ e, gs[j]? = some e := ⟨_, List.getElem?_eq_getElem hlt⟩
          obtain ⟨hrng, gq, rfl, hq⟩ := HL.out j e he
          have HE := Lib.hid he
          have HQ : Hid (wr.rangeAt gq (j * 2) e.cells) := range_below hq HX.out
          have HME := Lib.hid (HM.out e (List.mem_of_getElem? he))
          have j1 : (j : Int) < (gs.length : Int) := by omega
          have hbs := HX.out.size
          clear hq he
          go_wp2_with (first | ((with_reducible refine wpList_gateL ?_); refine wpList_load_mid rfl _ _ rfl gq (j * 2) rfl e.cells _ HQ.out Try.underlying42 rfl sizeAq ?_) | (with_reducible refine wpList_new newA ?_))
          intro A w3 hA1 hA2 hA3 hA4
          have HO3 := Lib.hid (owns_belowN HO.out hA4)
          have hOl : ∀ q, Value.ownBlock _ = some q → q < wr.heap.size := fun q hq => (HO.out.lt q hq).2
          have HX3 := Lib.hid (below_next HX.out hA4)
          clear hA4
          go_wp2_with ((with_reducible refine wpList_gateS ?_); refine wpList_put (cells := #[.float .f32 e.T, .float .f32 e.S]) hA3 sizeAq rfl (by simp [Value.oneCell']) rfl rfl ?_)
          intro w4 s4 b4 k4
          have HO4 := Lib.hid (owns_farN HO3.out k4 (fun q hq => by have := hOl q hq; omega))
          have HX4 := Lib.hid (below_grown HX3.out k4 HX3.out.size (by omega))
          have HA4 := Lib.hid b4
          clear hA3 s4 b4 k4
          go_wp2_with ((with_reducible refine wpList_get HA4.out Try.underlying42 rfl (by kernel_rfl) ?_ ?_); rfl)
          refine (misfit_any bS e s v l w4 HME.out (HSi2.out.later HX4.out) (HV2.out.far HX4.out)).mono ?_
          rintro e5 w5 ⟨q, rfl, hq, hb5⟩
          obtain rfl := is_misB HME.out hq
          have HO5 := Lib.hid (owns_belowN HO4.out hb5)
          have HX5 := Lib.hid (below_next HX4.out hb5)
          have hbs5 := HX5.out.size
          clear hb5 hq
          go_wp2_with (at_builtin; refine wpList_append_own _ rfl _ _ 77 rfl w2.heap.size 24 i0 (.float .f32 0) 1 4 Try.underlying77 hi hz0 hz1 hz2 rfl (by decide) _ _ _ rfl (HO5.out.alloc _) ⟨w5.heap.size, 0, none⟩ 1 1 [.float .f32 (misB s l e)] rfl rfl (cell_one_new _ _ _) (by simp [Value.oneCell']) (by unfold maxLen; omega) (by omega) (by simp; omega) ?_)
          intro v' w7 hown7 hgrow _
          have HO7 := Lib.hid hown7
          have HX7 : Hid (Below w2.heap.size w2 w7) := (HX5.out.alloc (by omega) _).grown hgrow (by simp; omega) (fun q hq => (HO5.out.lt q hq).1)
          clear hown7 hgrow
          go_wp2_with fail
          go_roundw
          case rel =>
            refine ⟨j + 1, by omega, by go_num, ?_, HX7.out⟩
            rw [take_more' HE.out, List.map_append]
            show w7.ownsRow _ _ 1 v' (j + 1) (flts (_ ++ [misB s l e]))
            rw [flts_snoc, List.map_take]; exact HO7.out
          case measure => simp [intOf]; omega
        · have j1 : ¬ (j : Int) < (gs.length : Int) := by omega
          have HF : Hid (∀ u, wr.ownsRow w2.heap.size 24 1 u j (flts ((gs.take j).map (misB s l))) → FListAt wr u (gs.map (misB s l))) := by
            intro u hu
            rw [List.take_of_length_le (by omega), show j = (gs.map (misB s l)).length by simp; omega] at hu
            exact flist_of hu
          go_wp2_with fail
          go_ret2
          exact ⟨_, by rw [HR.out]; rfl, fun _ => HF.out _ HO.out, below_next HB2.out HX.out⟩
    · have HR : Hid (gesF gs s l = 2) := by show (if _ then _ else _) = _; rw [if_pos HC.out, if_neg hin]
      obtain ⟨aL, cap, rfl, hL⟩ := HG2.out
      clear hL
      go_wp2_with (go_at_call 80; refine (in_no _ _ _ _ (by omega)).mono ?_; rintro e w' ⟨rfl, rfl⟩)
      go_ret2
      refine ⟨.slice none 0 0, ?_, ?_, ?_⟩
      · rw [HR.out]; rfl
      · intro h; rw [HR.out] at h; cases h
      · exact HB2.out
  · have HR : Hid (gesF gs s l = c) := by
      show (if _ then _ else _) = _
      rw [HC.out, if_neg h0]
      have := askF_one (A := gs.all Aq.ok) (s := s) (l := l) (by rw [HC.out]; exact h0)
      rw [HC.out] at this
      exact this.symm
    go_wp2_with fail
    go_ret2
    exact ⟨_, by rw [HR.out]; rfl, fun h => by rw [HR.out] at h; exact absurd h h0, HB2.out⟩
end Go.Proofs.Ytonmdkhfongmhaa
