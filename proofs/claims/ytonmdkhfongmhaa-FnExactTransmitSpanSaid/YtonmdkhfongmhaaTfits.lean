/- The guesses that fit within a bound: both sides. -/
import Derived.Test.YtonmdkhfongmhaaTbst
import Derived.Test.YtonmdkhfongmhaaTmark
namespace Go.Proofs.Ytonmdkhfongmhaa
open Go.RowKit

/-- Whether a guess fits. -/
def fitP (gs : List Aq) (s : Si) (l : List Rd) (bd : Nat) (i : Nat) : Bool := fle (some ((gs.map (misB s l)).getD i 0)) (fb bd)
def fitI (gs : List Aq) (s : Si) (l : List Rd) (bd : Nat) (n : Nat) : List Nat := (List.range n).filter (fitP gs s l bd)
def natI (l : List Nat) : List Int := l.map fun n : Nat => (n : Int)
theorem fitI_more {gs : List Aq} {s : Si} {l : List Rd} {bd n : Nat} : fitI gs s l bd (n + 1) = if fitP gs s l bd n = true then fitI gs s l bd n ++ [n] else fitI gs s l bd n := by
  unfold fitI
  rw [List.range_succ, List.filter_append]
  cases h : fitP gs s l bd n
  · rw [if_neg (by decide)]; simp [h]
  · rw [if_pos rfl]; simp [h]
theorem fitI_len (gs : List Aq) (s : Si) (l : List Rd) (bd n : Nat) : (fitI gs s l bd n).length ≤ n := by
  unfold fitI
  exact Nat.le_trans (List.length_filter_le _ _) (by rw [List.length_range]; exact Nat.le_refl _)
def fitR (gs : List Aq) (s : Si) (l : List Rd) (bd : Nat) : List Nat := if gesF gs s l = 0 then fitI gs s l bd gs.length else []
theorem fitR_len {gs : List Aq} {s : Si} {l : List Rd} {bd : Nat} : (fitR gs s l bd).length ≤ 20 := by
  unfold fitR
  split
  · rename_i h
    have h1 := fitI_len gs s l bd gs.length
    unfold gesF at h
    split at h
    · split at h
      · omega
      · exact absurd h (by decide)
    · exact absurd h (by decide)
  · exact Nat.zero_le _
/-- What is told of guesses that fit. -/
def RetFits (gs : List Aq) (s : Si) (l : List Rd) (bd : Nat) (w : World) (e : Ending) (w' : World) : Prop :=
  ∃ u, e = .returned (.tuple #[u, .int .i64 (gesF gs s l)]) ∧ w'.ownsRow w.heap.size 2 1 u (fitR gs s l bd).length (tints (natI (fitR gs s l bd))) ∧ Below w.heap.size w w'
def FwRel (gs : List Aq) (s : Si) (l : List Rd) (bd : Nat) (w : World) (v12 v28 : Value) (wr : World) : Prop :=
  ∃ j : Nat, j ≤ gs.length ∧ v28 = .int .i64 j ∧ wr.ownsRow w.heap.size 2 1 v12 (fitI gs s l bd j).length (tints (natI (fitI gs s l bd j))) ∧ Below w.heap.size w wr
theorem owns_nil (w : World) (base : Nat) (T : TypeId) : w.ownsRow base T 1 (.slice none 0 0) 0 [] := ⟨rfl, .inl ⟨rfl, rfl⟩⟩

set_option maxRecDepth 100000 in
set_option maxHeartbeats 3200000 in
theorem FitsWithin_any (gs : List Aq) (s : Si) (hs : s.Rng) (vg v : Value) (l : List Rd) (bd : Nat) (w : World) (hlen : l.length ≤ 1048576) (hgl : gs.length ≤ 1048576) (hg : AAt w vg gs) (hv : RAt w v l) :
    Calls Try.prog 42 #[vg, .agg s.cells, v, .float .f32 bd] w (RetFits gs s l bd w) := by
  obtain ⟨i0, hi, hz0, hz1, hz2⟩ := info_parts infoT64
  have HS := Lib.hid hs
  have HV := Lib.hid hv
  have HG0 := Lib.hid hg
  have hlt' := order_lt
  have heq' := order_eq
  clear hs hv hg
  go_enter Try.func42, Try.ntmps42
  go_wp2_with (with_reducible refine wpList_box rfl ?_)
  intro bS w1 hS1 hS2 hS3 hS4
  have HSi := Lib.hid hS3
  have HB := Lib.hid hS4
  clear hS3 hS4
  go_wp2_with ((with_reducible refine wpList_get HSi.out Try.underlying46 rfl (by kernel_rfl) ?_ ?_); rfl)
  refine (misfits_any gs s HS.out vg v l _ hlen hgl (HG0.out.far HB.out) (HV.out.far HB.out)).mono ?_
  obtain ⟨c, hc⟩ : ∃ c, gesF gs s l = c := ⟨_, rfl⟩
  have HC := Lib.hid hc
  unfold RetMis
  rw [hc]
  clear hc
  rintro e w2 ⟨u, rfl, hu, hb2⟩
  have HU := Lib.hid hu
  have HB2 := Lib.hid (below_next HB.out hb2)
  clear hb2 hu
  by_cases h0 : c = 0
  · subst h0
    obtain ⟨hm, h1, h20⟩ := ges_ok HC.out HV.out.rng
    have HM := Lib.hid hm
    have HAG := Lib.hid (misB_all hm)
    have hml : (gs.map (misB s l)).length = gs.length := by simp
    obtain ⟨aL, cap, hue, _, hL⟩ := HU.out rfl
    rw [hml] at hue
    subst hue
    have HL := Lib.hid hL
    have HR : Hid (fitR gs s l bd = fitI gs s l bd gs.length) := by show (if _ then _ else _) = _; rw [if_pos HC.out]
    clear hm hL
    go_wp2_with fail
    go_loopw [12, 28] (fun v12 v28 wr => FwRel gs s l bd w2 v12 v28 wr) (fun _ v28 _ => gs.length - (intOf v28).toNat)
    case atStart => exact ⟨0, by omega, rfl, World.ownsRow_lit w2 #[] 0 (Nat.le_refl _) (by simp [maxLen]) rfl, (Below.refl _ _).alloc (Nat.le_refl _) _⟩
    case round =>
      obtain ⟨j, hj, rfl, hown, hB⟩ := hrel
      have HO := Lib.hid hown
      have HX := Lib.hid hB
      clear hown hB
      by_cases hlt : j < gs.length
      · obtain ⟨c, hc⟩ : ∃ c, (gs.map (misB s l))[j]? = some c := ⟨_, List.getElem?_eq_getElem (by omega)⟩
        obtain ⟨gq, rfl, hq⟩ := HL.out j c hc
        have hqc := cell_below HX.out hq
        have j1 : (j : Int) < (gs.length : Int) := by omega
        have hbs := HX.out.size
        obtain ⟨g1, g2⟩ := gd_self (HAG.out c (List.mem_of_getElem? hc))
        have HP : Hid (fitP gs s l bd j = fle (fb c) (fb bd)) := by show fle _ _ = _; rw [List.getD, hc, g1]; rfl
        have hfl := fitI_len gs s l bd j
        clear hc hq g1 g2
        cases hF : fle (fb c) (fb bd)
        · have hF2 : flt (fb c) (fb bd) = false ∧ feq (fb c) (fb bd) = false := by unfold fle at hF; simpa using hF
          obtain ⟨hF3, hF4⟩ := hF2
          rw [hF] at HP
          have HMORE : Hid (fitI gs s l bd (j + 1) = fitI gs s l bd j) := by show _ = _; rw [fitI_more, if_neg (by rw [HP.out]; decide)]
          clear hF
          go_wp2_with fail
          go_roundw
          case rel => exact ⟨j + 1, by omega, by go_num, by rw [HMORE.out]; exact HO.out, HX.out⟩
          case measure => simp [intOf]; omega
        · have hF2 : (flt (fb c) (fb bd) || feq (fb c) (fb bd)) = true := by unfold fle at hF; exact hF
          rw [hF] at HP
          have HMORE : Hid (fitI gs s l bd (j + 1) = fitI gs s l bd j ++ [j]) := by show _ = _; rw [fitI_more, if_pos HP.out]
          clear hF
          have hcase : (flt (fb c) (fb bd) = false ∧ feq (fb c) (fb bd) = true) ∨ flt (fb c) (fb bd) = true := by
            cases h : flt (fb c) (fb bd)
            · rw [h] at hF2; exact .inl ⟨rfl, by simpa using hF2⟩
            · exact .inr rfl
          clear hF2
          rcases hcase with ⟨k1, k2⟩ | k1
          all_goals
            go_wp2_with (at_builtin; refine wpList_append_own _ rfl _ _ 50 rfl w2.heap.size 2 i0 (.int .i64 0) 1 8 Try.underlying50 hi hz0 hz1 hz2 rfl (by decide) _ _ _ rfl (HO.out.alloc _) ⟨wr.heap.size, 0, none⟩ 1 1 [.int .i64 (j : Int)] rfl rfl (cell_one_new _ _ _) (by simp [Value.oneCell']) (by unfold maxLen; omega) (by omega) (by simp; omega) ?_)
            intro v' w7 hown7 hgrow _
            have HO7 := Lib.hid hown7
            have HX7 : Hid (Below w2.heap.size w2 w7) := (HX.out.alloc (by omega) _).grown hgrow (by simp; omega) (fun q hq => (HO.out.lt q hq).1)
            clear hown7 hgrow
            go_wp2_with fail
            go_roundw
            case rel =>
              refine ⟨j + 1, by omega, by go_num, ?_, HX7.out⟩
              rw [HMORE.out, List.length_append]
              show w7.ownsRow _ _ 1 v' ((fitI gs s l bd j).length + 1) (tints (natI (_ ++ [j])))
              rw [show natI (fitI gs s l bd j ++ [j]) = natI (fitI gs s l bd j) ++ [(j : Int)] by simp [natI], tints_snoc]
              exact HO7.out
            case measure => simp [intOf]; omega
      · have j1 : ¬ (j : Int) < (gs.length : Int) := by omega
        have HJ : Hid (fitI gs s l bd j = fitR gs s l bd) := by show _ = _; rw [HR.out, show j = gs.length by omega]
        rw [HJ.out] at HO
        go_wp2_with fail
        go_ret2
        exact ⟨_, by rw [HC.out]; rfl, owns_monoN HO.out HB2.out.size, below_next HB2.out HX.out⟩
  · have HR : Hid (fitR gs s l bd = []) := by show (if _ then _ else _) = _; rw [HC.out, if_neg h0]
    go_wp2_with fail
    go_ret2
    refine ⟨.slice none 0 0, ?_, ?_, ?_⟩
    · rw [HC.out]; rfl
    · rw [HR.out]; exact owns_nil _ _ _
    · exact HB2.out

set_option maxRecDepth 100000 in
set_option maxHeartbeats 3200000 in
theorem specFitsWithin_any (gs : List Aq) (s : Si) (hs : s.Rng) (vg v : Value) (l : List Rd) (bd : Nat) (w : World) (hlen : l.length ≤ 1048576) (hgl : gs.length ≤ 1048576) (hg : AAt w vg gs) (hv : RAt w v l) :
    Calls Try.prog 41 #[vg, .agg s.cells, v, .float .f32 bd] w (RetFits gs s l bd w) := by
  obtain ⟨i0, hi, hz0, hz1, hz2⟩ := info_parts infoT64
  have HS := Lib.hid hs
  have HV := Lib.hid hv
  have HG0 := Lib.hid hg
  have hlt' := order_lt
  have heq' := order_eq
  clear hs hv hg
  go_enter Try.func41, Try.ntmps41
  go_wp2_with (with_reducible refine wpList_box rfl ?_)
  intro bS w1 hS1 hS2 hS3 hS4
  have HSi := Lib.hid hS3
  have HB := Lib.hid hS4
  clear hS3 hS4
  go_wp2_with ((with_reducible refine wpList_get HSi.out Try.underlying46 rfl (by kernel_rfl) ?_ ?_); rfl)
  refine (l04Guesses_any gs s HS.out vg v l _ hlen hgl (HG0.out.far HB.out) (HV.out.far HB.out)).mono ?_
  obtain ⟨c, hc⟩ : ∃ c, gesF gs s l = c := ⟨_, rfl⟩
  have HC := Lib.hid hc
  rw [hc]
  clear hc
  rintro e w2 ⟨rfl, hb2⟩
  have HSi2 := Lib.hid (HSi.out.later hb2)
  have HB2 := Lib.hid (below_next HB.out hb2)
  have HV2 := Lib.hid (HV.out.far HB2.out)
  clear hb2
  by_cases h0 : c = 0
  · subst h0
    obtain ⟨hm, h1, h20⟩ := ges_ok HC.out HV.out.rng
    have HM := Lib.hid hm
    obtain ⟨aL, cap, rfl, hL⟩ := HG0.out.far HB2.out
    have HL := Lib.hid hL
    have HR : Hid (fitR gs s l bd = fitI gs s l bd gs.length) := by show (if _ then _ else _) = _; rw [if_pos HC.out]
    clear hm hL
    go_wp2_with fail
    go_loopw [11, 12] (fun v11 v12 wr => FwRel gs s l bd w2 v11 v12 wr) (fun _ v12 _ => gs.length - (intOf v12).toNat)
    case atStart => exact ⟨0, by omega, rfl, World.ownsRow_lit w2 #[] 0 (Nat.le_refl _) (by simp [maxLen]) rfl, (Below.refl _ _).alloc (Nat.le_refl _) _⟩
    case round =>
      obtain ⟨j, hj, rfl, hown, hB⟩ := hrel
      have HO0 := Lib.hid hown
      have HX0 := Lib.hid hB
      clear hown hB
      by_cases hlt : j < gs.length
      · obtain ⟨e, he⟩ : ∃ e, gs[j]? = some e := ⟨_, List.getElem?_eq_getElem hlt⟩
        obtain ⟨hrng, gq, rfl, hq⟩ := HL.out j e he
        have j1 : (j : Int) < (gs.length : Int) := by omega
        have hbs0 := HX0.out.size
        have RS := Lib.hid (row_blk (HSi2.out.later HX0.out))
        have RR : Hid (RowAt wr gq (j * 2) #[.float .f32 e.T, .float .f32 e.S]) := fun j v hv => cell_below HX0.out (hq j v (by rw [← Array.getElem?_toList] at hv; exact hv))
        have HVr := Lib.hid (HV2.out.far HX0.out)
        have HME := Lib.hid (HM.out e (List.mem_of_getElem? he))
        have g3 := misB_eq HME.out
        have HP : Hid (fitP gs s l bd j = fle (fb (misB s l e)) (fb bd)) := by show fle _ _ = _; rw [List.getD, List.getElem?_map, he, fb_gd g3.2]; rfl
        have hfl := fitI_len gs s l bd j
        clear hq he g3
        cases hF : fle (fb (misB s l e)) (fb bd)
        · have hF2 : flt (fb (misB s l e)) (fb bd) = false ∧ feq (fb (misB s l e)) (fb bd) = false := by unfold fle at hF; simpa using hF
          obtain ⟨hF3, hF4⟩ := hF2
          rw [hF] at HP
          have HMORE : Hid (fitI gs s l bd (j + 1) = fitI gs s l bd j) := by show _ = _; rw [fitI_more, if_neg (by rw [HP.out]; decide)]
          clear hF
          go_wp2_with fail
          refine wp_soft (SFl (misF e s l)) (by kernel_rfl) (by kernel_rfl) ?_
          repeat (first | ((with_reducible refine soft_getAt (T := 42) (b := gq) (o := j * 2) (cs := #[.float .f32 e.T, .float .f32 e.S]) Try.underlying42 ?_ ?_ ?_ ?_ ?_); rfl; exact sizeAq; exact RR.out; rfl) | ((with_reducible refine soft_getAt (T := 46) (b := bS) (o := 0) (cs := s.cells) Try.underlying46 ?_ ?_ ?_ ?_ ?_); rfl; exact sizeSt; exact RS.out; rfl) | (refine soft_step (fun K hK => ?_); go_simp; (try go_bits); refine hK _ ?_; clear hK K) | (refine soft_step (fun K hK => ?_); go_simp; refine ⟨_, _, ⟨rfl, rfl⟩, fun zz => ?_, ?_⟩; ((with_reducible refine (l04Misfit_any e s _ l _ HME.out (HVr.out.far (ext_below wr zz))).mono ?_); rintro e1 w1 ⟨q, he, hq, hb⟩; exact ⟨_, he, ⟨q, rfl, hq⟩, hb⟩); rintro v ⟨qe, rfl, hqe⟩; obtain rfl := is_misB HME.out hqe; refine hK _ ?_; clear hK K))
          refine soft_nil ?_
          rintro wr2 hw6
          have HX := Lib.hid (below_next HX0.out hw6.below)
          have HO := Lib.hid (owns_belowN HO0.out hw6.below)
          have hbs := HX.out.size
          clear hw6 RS RR hqe HO0
          go_wp2_with fail
          go_roundw
          case rel => exact ⟨j + 1, by omega, by go_num, by rw [HMORE.out]; exact HO.out, HX.out⟩
          case measure => simp [intOf]; omega
        · have hF2 : (flt (fb (misB s l e)) (fb bd) || feq (fb (misB s l e)) (fb bd)) = true := by unfold fle at hF; exact hF
          rw [hF] at HP
          have HMORE : Hid (fitI gs s l bd (j + 1) = fitI gs s l bd j ++ [j]) := by show _ = _; rw [fitI_more, if_pos HP.out]
          clear hF
          have hcase : (flt (fb (misB s l e)) (fb bd) = false ∧ feq (fb (misB s l e)) (fb bd) = true) ∨ flt (fb (misB s l e)) (fb bd) = true := by
            cases h : flt (fb (misB s l e)) (fb bd)
            · rw [h] at hF2; exact .inl ⟨rfl, by simpa using hF2⟩
            · exact .inr rfl
          clear hF2
          rcases hcase with ⟨k1, k2⟩ | k1
          all_goals
            go_wp2_with fail
            refine wp_soft (SFl (misF e s l)) (by kernel_rfl) (by kernel_rfl) ?_
            repeat (first | ((with_reducible refine soft_getAt (T := 42) (b := gq) (o := j * 2) (cs := #[.float .f32 e.T, .float .f32 e.S]) Try.underlying42 ?_ ?_ ?_ ?_ ?_); rfl; exact sizeAq; exact RR.out; rfl) | ((with_reducible refine soft_getAt (T := 46) (b := bS) (o := 0) (cs := s.cells) Try.underlying46 ?_ ?_ ?_ ?_ ?_); rfl; exact sizeSt; exact RS.out; rfl) | (refine soft_step (fun K hK => ?_); go_simp; (try go_bits); refine hK _ ?_; clear hK K) | (refine soft_step (fun K hK => ?_); go_simp; refine ⟨_, _, ⟨rfl, rfl⟩, fun zz => ?_, ?_⟩; ((with_reducible refine (l04Misfit_any e s _ l _ HME.out (HVr.out.far (ext_below wr zz))).mono ?_); rintro e1 w1 ⟨q, he, hq, hb⟩; exact ⟨_, he, ⟨q, rfl, hq⟩, hb⟩); rintro v ⟨qe, rfl, hqe⟩; obtain rfl := is_misB HME.out hqe; refine hK _ ?_; clear hK K))
            refine soft_nil ?_
            rintro wr2 hw6
            have HX := Lib.hid (below_next HX0.out hw6.below)
            have HO := Lib.hid (owns_belowN HO0.out hw6.below)
            have hbs := HX.out.size
            clear hw6 RS RR hqe HO0
            go_wp2_with (at_builtin; refine wpList_append_own _ rfl _ _ 50 rfl w2.heap.size 2 i0 (.int .i64 0) 1 8 Try.underlying50 hi hz0 hz1 hz2 rfl (by decide) _ _ _ rfl (HO.out.alloc _) ⟨wr2.heap.size, 0, none⟩ 1 1 [.int .i64 (j : Int)] rfl rfl (cell_one_new _ _ _) (by simp [Value.oneCell']) (by unfold maxLen; omega) (by omega) (by simp; omega) ?_)
            intro v' w7 hown7 hgrow _
            have HO7 := Lib.hid hown7
            have HX7 : Hid (Below w2.heap.size w2 w7) := (HX.out.alloc (by omega) _).grown hgrow (by simp; omega) (fun q hq => (HO.out.lt q hq).1)
            clear hown7 hgrow
            go_wp2_with fail
            go_roundw
            case rel =>
              refine ⟨j + 1, by omega, by go_num, ?_, HX7.out⟩
              rw [HMORE.out, List.length_append]
              show w7.ownsRow _ _ 1 v' ((fitI gs s l bd j).length + 1) (tints (natI (_ ++ [j])))
              rw [show natI (fitI gs s l bd j ++ [j]) = natI (fitI gs s l bd j) ++ [(j : Int)] by simp [natI], tints_snoc]
              exact HO7.out
            case measure => simp [intOf]; omega
      · have j1 : ¬ (j : Int) < (gs.length : Int) := by omega
        have HJ : Hid (fitI gs s l bd j = fitR gs s l bd) := by show _ = _; rw [HR.out, show j = gs.length by omega]
        rw [HJ.out] at HO0
        go_wp2_with fail
        go_ret2
        exact ⟨_, by rw [HC.out]; rfl, owns_monoN HO0.out HB2.out.size, below_next HB2.out HX0.out⟩
  · have HR : Hid (fitR gs s l bd = []) := by show (if _ then _ else _) = _; rw [HC.out, if_neg h0]
    have hown : Hid ((w2.alloc (.cells #[] 2)).ownsRow w.heap.size 2 1 (.slice (some ⟨w2.heap.size, 0, none⟩) 0 0) 0 []) := World.ownsRow_lit w2 #[] 0 HB2.out.size (by simp [maxLen]) rfl
    go_wp2_with fail
    go_ret2
    refine ⟨_, by rw [HC.out]; rfl, ?_, ?_⟩
    · rw [HR.out]; exact hown.out
    · exact HB2.out.alloc HB2.out.size _
end Go.Proofs.Ytonmdkhfongmhaa
