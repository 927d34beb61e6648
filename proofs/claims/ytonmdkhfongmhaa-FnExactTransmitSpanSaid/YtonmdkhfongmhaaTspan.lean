/- The span of the transmissivities of guesses that fit: both sides. -/
import Derived.Test.YtonmdkhfongmhaaTfits
namespace Go.Proofs.Ytonmdkhfongmhaa
open Go.RowKit

theorem okA_gd {T S : Nat} (hT : T < 2 ^ 32) (h : okA (fb T) (fb S) = true) : fb T = some T ∧ T < 2139095040 := by
  obtain ⟨⟨h1, _⟩, _⟩ := okA_parts h
  obtain ⟨b, m, e, hb, hr, he, hm, _⟩ := h1
  obtain rfl := fb_lt hb
  have := gd_of (x := fb T) ⟨T, m, e, hb, hr⟩ (fun b hb2 => by rw [hb] at hb2; cases hb2; exact hT)
  exact gd_self this
/-- The transmissivities. -/
def traL (gs : List Aq) (r : List Nat) : List Nat := r.map fun i => (gs.getD i ⟨0, 0⟩).T
structure SpR where
  x : F
  y : F
  z : Int
def spaR (gs : List Aq) (s : Si) (l : List Rd) (bd : Nat) : SpR :=
  if gesF gs s l = 0 then (if (fitR gs s l bd).length = 0 then ⟨some 0, some 0, 6⟩ else ⟨some (leastB (traL gs (fitR gs s l bd))), some (mostB (traL gs (fitR gs s l bd))), 0⟩) else ⟨some 0, some 0, gesF gs s l⟩
def RetSp (t : SpR) (w : World) (e : Ending) (w' : World) : Prop := ∃ r q, e = .returned (.tuple #[.float .f32 r, .float .f32 q, .int .i64 t.z]) ∧ Is r t.x ∧ Is q t.y ∧ Below w.heap.size w w'
theorem fitR_mem {gs : List Aq} {s : Si} {l : List Rd} {bd i : Nat} (h : i ∈ fitR gs s l bd) : gesF gs s l = 0 ∧ i < gs.length := by
  unfold fitR at h
  split at h
  · rename_i h0
    exact ⟨h0, List.mem_range.1 (List.mem_filter.1 h).1⟩
  · cases h
theorem ges_aok {gs : List Aq} {s : Si} {l : List Rd} (h : gesF gs s l = 0) : ∀ a ∈ gs, a.ok = true := by
  unfold gesF at h
  split at h
  · rename_i h1
    exact List.all_eq_true.1 (ask_parts h1).1
  · exact absurd h (by decide)
theorem traL_gd {gs : List Aq} {s : Si} {l : List Rd} {bd : Nat} (hr : ∀ a ∈ gs, a.Rng) : AllGd (traL gs (fitR gs s l bd)) := by
  intro c hc
  obtain ⟨i, hi, rfl⟩ := List.mem_map.1 hc
  obtain ⟨h0, hlt⟩ := fitR_mem hi
  have hg : gs.getD i ⟨0, 0⟩ = gs[i] := by simp [List.getD, hlt]
  rw [hg]
  have hm : gs[i] ∈ gs := List.getElem_mem hlt
  obtain ⟨h1, h2⟩ := okA_gd (hr _ hm).1 (ges_aok h0 _ hm)
  rw [h1]
  exact ⟨_, rfl, h2⟩
theorem natI_at {r : List Nat} {j i : Nat} (h : r[j]? = some i) : (natI r)[j]? = some (i : Int) := by simp [natI, h]

def TsRel (gs : List Aq) (r : List Nat) (w : World) (v13 v35 : Value) (wr : World) : Prop :=
  ∃ j : Nat, j ≤ r.length ∧ v35 = .int .i64 j ∧ wr.ownsRow w.heap.size 24 1 v13 j (flts (traL gs (r.take j))) ∧ Below w.heap.size w wr

set_option maxRecDepth 100000 in
set_option maxHeartbeats 3200000 in
theorem TransmitSpan_any (gs : List Aq) (s : Si) (hs : s.Rng) (vg v : Value) (l : List Rd) (bd : Nat) (w : World) (hlen : l.length ≤ 1048576) (hgl : gs.length ≤ 1048576) (hg : AAt w vg gs) (hv : RAt w v l) :
    Calls Try.prog 46 #[vg, .agg s.cells, v, .float .f32 bd] w (RetSp (spaR gs s l bd) w) := by
  obtain ⟨i0, hi, hz0, hz1, hz2⟩ := info_parts Try.info24
  have hgr := hg.rng
  have HS := Lib.hid hs
  have HV := Lib.hid hv
  have HG0 := Lib.hid hg
  clear hs hv hg
  go_enter Try.func46, Try.ntmps46
  go_wp2_with (with_reducible refine wpList_box rfl ?_)
  intro bS w1 hS1 hS2 hS3 hS4
  have HSi := Lib.hid hS3
  have HB := Lib.hid hS4
  clear hS3 hS4
  go_wp2_with ((with_reducible refine wpList_get HSi.out Try.underlying46 rfl (by kernel_rfl) ?_ ?_); rfl)
  refine (FitsWithin_any gs s HS.out vg v l bd _ hlen hgl (HG0.out.far HB.out) (HV.out.far HB.out)).mono ?_
  obtain ⟨c, hc⟩ : ∃ c, gesF gs s l = c := ⟨_, rfl⟩
  obtain ⟨r, hr⟩ : ∃ r, fitR gs s l bd = r := ⟨_, rfl⟩
  have HC := Lib.hid hc
  have HRR := Lib.hid hr
  have hr20 : r.length ≤ 20 := by rw [← hr]; exact fitR_len
  have HAG : Hid (AllGd (traL gs r)) := by show AllGd _; rw [← hr]; exact traL_gd hgr
  have HMEM : Hid (∀ i ∈ r, i < gs.length) := fun i h => by rw [← hr] at h; exact (fitR_mem h).2
  unfold RetFits
  rw [hc, hr]
  clear hc hr
  rintro e w2 ⟨u, rfl, hown, hb2⟩
  have HB2 := Lib.hid (below_next HB.out hb2)
  have HTS := Lib.hid (show TsAt w2 u (fun i => (natI r).getD i 0) (natI r).length from tsat_owned (by rw [show (natI r).length = r.length by simp [natI]]; exact hown))
  have hnl : (natI r).length = r.length := by simp [natI]
  obtain ⟨aI, capI, hue, hLI⟩ := HTS.out
  rw [hnl] at hue
  subst hue
  have HLI := Lib.hid hLI
  clear hb2 hown hLI HTS
  by_cases h0 : c = 0
  · subst h0
    by_cases hl0 : r.length = 0
    · have HR : Hid (spaR gs s l bd = ⟨some 0, some 0, 6⟩) := by show (if _ then _ else _) = _; rw [if_pos HC.out, HRR.out, if_pos hl0]
      have hz : (r.length : Int) = 0 := by omega
      go_wp2_with fail
      refine ret_tmp3 rfl rfl ?_
      exact ⟨0, 0, by rw [HR.out]; rfl, by rw [HR.out]; exact fb0, by rw [HR.out]; exact fb0, HB2.out⟩
    · have HR : Hid (spaR gs s l bd = ⟨some (leastB (traL gs r)), some (mostB (traL gs r)), 0⟩) := by show (if _ then _ else _) = _; rw [if_pos HC.out, HRR.out, if_neg hl0]
      have hz : ((r.length : Int) == 0) = false := by rw [beq_eq_false_iff_ne]; omega
      have hrne : r ≠ [] := fun h => hl0 (by rw [h]; rfl)
      obtain ⟨aG, capG, hge, hLG⟩ := HG0.out.far HB2.out
      subst hge
      have HLG := Lib.hid hLG
      clear hLG
      go_wp2_with fail
      go_loopw [13, 35] (fun v13 v35 wr => TsRel gs r w2 v13 v35 wr) (fun _ v35 _ => r.length - (intOf v35).toNat)
      case atStart => exact ⟨0, by omega, rfl, World.ownsRow_lit w2 #[] 0 (Nat.le_refl _) (by simp [maxLen]) rfl, (Below.refl _ _).alloc (Nat.le_refl _) _⟩
      case round =>
        obtain ⟨j, hj, rfl, hown, hB⟩ := hrel
        have HO := Lib.hid hown
        have HX := Lib.hid hB
        clear hown hB
        by_cases hlt : j < r.length
        · obtain ⟨i, hri⟩ : ∃ i, r[j]? = some i := ⟨_, List.getElem?_eq_getElem hlt⟩
          have hig := HMEM.out i (List.mem_of_getElem? hri)
          obtain ⟨e, he⟩ : ∃ e, gs[i]? = some e := ⟨_, List.getElem?_eq_getElem hig⟩
          obtain ⟨gI, oI, rfl, hqI⟩ := HLI.out j (by omega)
          obtain ⟨hrng, gG, rfl, hqG⟩ := HLG.out i e he
          have e1 : (natI r).getD j 0 = (i : Int) := by rw [List.getD, natI_at hri]; rfl
          have hqI2 : w2.cell? ⟨gI, oI + j, none⟩ = some (.int .i64 ((natI r).getD j 0)) := hqI
          rw [e1] at hqI2
          have hc1 : wr.cell? ⟨gI, oI + j, none⟩ = some (.int .i64 (i : Int)) := cell_below HX.out hqI2
          have hc2 : wr.cell? ⟨gG, i * 2, none⟩ = some (.float .f32 e.T) := cell_below HX.out (hqG 0 _ rfl)
          have HRI := Lib.hid hri
          have HTE : Hid ((gs.getD i ⟨0, 0⟩).T = e.T) := by show _ = _; rw [List.getD, he]; rfl
          have j1 : (j : Int) < (r.length : Int) := by omega
          have i1 : (i : Int) < (gs.length : Int) := by omega
          have hbs := HX.out.size
          clear hri he hqI hqI2 hqG e1
          go_wp2_with (at_builtin; refine wpList_append_own _ rfl _ _ 77 rfl w2.heap.size 24 i0 (.float .f32 0) 1 4 Try.underlying77 hi hz0 hz1 hz2 rfl (by decide) _ _ _ rfl (HO.out.alloc _) ⟨wr.heap.size, 0, none⟩ 1 1 [.float .f32 e.T] rfl rfl (cell_one_new _ _ _) (by simp [Value.oneCell']) (by unfold maxLen; omega) (by omega) (by simp; omega) ?_)
          intro v' w7 hown7 hgrow _
          have HO7 := Lib.hid hown7
          have HX7 : Hid (Below w2.heap.size w2 w7) := (HX.out.alloc (by omega) _).grown hgrow (by simp; omega) (fun q hq => (HO.out.lt q hq).1)
          clear hown7 hgrow hc1 hc2
          go_wp2_with fail
          go_roundw
          case rel =>
            refine ⟨j + 1, by omega, by go_num, ?_, HX7.out⟩
            have : traL gs (r.take (j + 1)) = traL gs (r.take j) ++ [e.T] := by unfold traL; rw [take_more' HRI.out, List.map_append]; simp only [List.map_cons, List.map_nil]; rw [HTE.out]
            rw [this, flts_snoc]
            exact HO7.out
          case measure => simp [intOf]; omega
        · have j1 : ¬ (j : Int) < (r.length : Int) := by omega
          have hjr : j = r.length := by omega
          have htl : (traL gs r).length = r.length := by simp [traL]
          have HF : Hid (∀ u, wr.ownsRow w2.heap.size 24 1 u j (flts (traL gs (r.take j))) → FListAt wr u (traL gs r)) := by
            intro u hu
            rw [List.take_of_length_le (by omega), hjr, ← htl] at hu
            exact flist_of hu
          have HF2 := Lib.hid (HF.out _ HO.out)
          have htne : traL gs r ≠ [] := by intro h; have := congrArg List.length h; rw [htl] at this; exact hl0 this
          have HSL := Lib.hid (gd_self (HAG.out _ (leastB_mem htne))).1
          have HSM := Lib.hid (gd_self (HAG.out _ (mostB_mem htne))).1
          go_wp2_with fail
          refine (Min_any _ _ wr (by omega) htne HF2.out HAG.out).mono ?_
          rintro e3 w3 ⟨rfl, rfl⟩
          go_wp2_with fail
          refine (Max_any _ _ wr (by omega) htne HF2.out HAG.out).mono ?_
          rintro e3 w3 ⟨rfl, rfl⟩
          go_wp2_with fail
          refine ret_tmp3 rfl rfl ?_
          exact ⟨_, _, by rw [HR.out]; rfl, by rw [HR.out]; exact HSL.out, by rw [HR.out]; exact HSM.out, below_next HB2.out HX.out⟩
  · have HR : Hid (spaR gs s l bd = ⟨some 0, some 0, c⟩) := by show (if _ then _ else _) = _; rw [HC.out, if_neg h0]
    go_wp2_with fail
    refine ret_tmp3 rfl rfl ?_
    exact ⟨0, 0, by rw [HR.out]; rfl, by rw [HR.out]; exact fb0, by rw [HR.out]; exact fb0, HB2.out⟩

def SpRel (gs : List Aq) (r : List Nat) (w : World) (v13 v14 v15 : Value) (wr : World) : Prop :=
  ∃ i : Nat, 1 ≤ i ∧ i ≤ r.length ∧ v15 = .int .i64 i ∧ v13 = .float .f32 (leastB ((traL gs r).take i)) ∧ v14 = .float .f32 (mostB ((traL gs r).take i)) ∧ w = wr

set_option maxRecDepth 100000 in
set_option maxHeartbeats 3200000 in
theorem specTransmitSpan_any (gs : List Aq) (s : Si) (hs : s.Rng) (vg v : Value) (l : List Rd) (bd : Nat) (w : World) (hlen : l.length ≤ 1048576) (hgl : gs.length ≤ 1048576) (hg : AAt w vg gs) (hv : RAt w v l) :
    Calls Try.prog 45 #[vg, .agg s.cells, v, .float .f32 bd] w (RetSp (spaR gs s l bd) w) := by
  have hgr := hg.rng
  have HS := Lib.hid hs
  have HV := Lib.hid hv
  have HG0 := Lib.hid hg
  have hlt' := order_lt
  have hgt' := order_gt
  clear hs hv hg
  go_enter Try.func45, Try.ntmps45
  go_wp2_with (with_reducible refine wpList_box rfl ?_)
  intro bS w1 hS1 hS2 hS3 hS4
  have HSi := Lib.hid hS3
  have HB := Lib.hid hS4
  clear hS3 hS4
  go_wp2_with ((with_reducible refine wpList_get HSi.out Try.underlying46 rfl (by kernel_rfl) ?_ ?_); rfl)
  refine (specFitsWithin_any gs s HS.out vg v l bd _ hlen hgl (HG0.out.far HB.out) (HV.out.far HB.out)).mono ?_
  obtain ⟨c, hc⟩ : ∃ c, gesF gs s l = c := ⟨_, rfl⟩
  obtain ⟨r, hr⟩ : ∃ r, fitR gs s l bd = r := ⟨_, rfl⟩
  have HC := Lib.hid hc
  have HRR := Lib.hid hr
  have hr20 : r.length ≤ 20 := by rw [← hr]; exact fitR_len
  have HAG : Hid (AllGd (traL gs r)) := by show AllGd _; rw [← hr]; exact traL_gd hgr
  have HMEM : Hid (∀ i ∈ r, i < gs.length) := fun i h => by rw [← hr] at h; exact (fitR_mem h).2
  unfold RetFits
  rw [hc, hr]
  clear hc hr
  rintro e w2 ⟨u, rfl, hown, hb2⟩
  have HB2 := Lib.hid (below_next HB.out hb2)
  have HTS := Lib.hid (show TsAt w2 u (fun i => (natI r).getD i 0) (natI r).length from tsat_owned (by rw [show (natI r).length = r.length by simp [natI]]; exact hown))
  have hnl : (natI r).length = r.length := by simp [natI]
  obtain ⟨aI, capI, hue, hLI⟩ := HTS.out
  rw [hnl] at hue
  subst hue
  have HLI := Lib.hid hLI
  clear hb2 hown hLI HTS
  by_cases h0 : c = 0
  · subst h0
    by_cases hl0 : r.length = 0
    · have HR : Hid (spaR gs s l bd = ⟨some 0, some 0, 6⟩) := by show (if _ then _ else _) = _; rw [if_pos HC.out, HRR.out, if_pos hl0]
      have hz : (r.length : Int) = 0 := by omega
      go_wp2_with fail
      refine ret_tmp3 rfl rfl ?_
      exact ⟨0, 0, by rw [HR.out]; rfl, by rw [HR.out]; exact fb0, by rw [HR.out]; exact fb0, HB2.out⟩
    · have HR : Hid (spaR gs s l bd = ⟨some (leastB (traL gs r)), some (mostB (traL gs r)), 0⟩) := by show (if _ then _ else _) = _; rw [if_pos HC.out, HRR.out, if_neg hl0]
      have hz : ((r.length : Int) == 0) = false := by rw [beq_eq_false_iff_ne]; omega
      have hrne : r ≠ [] := fun h => hl0 (by rw [h]; rfl)
      have hz2 : (0 : Int) < (r.length : Int) := by omega
      have hz4 : 0 < r.length := by omega
      have htl : (traL gs r).length = r.length := by simp [traL]
      have htne : traL gs r ≠ [] := by intro h; have := congrArg List.length h; rw [htl] at this; exact hl0 this
      obtain ⟨aG, capG, hge, hLG⟩ := HG0.out.far HB2.out
      subst hge
      have HLG := Lib.hid hLG
      clear hLG
      have KEY : Hid (∀ j i : Nat, r[j]? = some i → i < gs.length ∧ ∃ gI oI gG c, aI = some ⟨gI, oI, none⟩ ∧ w2.cell? ⟨gI, oI + j, none⟩ = some (.int .i64 (i : Int)) ∧ aG = some ⟨gG, 0, none⟩ ∧ w2.cell? ⟨gG, i * 2, none⟩ = some (.float .f32 c) ∧ (traL gs r)[j]? = some c) := by
        intro j i hri
        have hlt : j < r.length := (List.getElem?_eq_some_iff.1 hri).1
        have hig := HMEM.out i (List.mem_of_getElem? hri)
        obtain ⟨e, he⟩ : ∃ e, gs[i]? = some e := ⟨_, List.getElem?_eq_getElem hig⟩
        obtain ⟨gI, oI, h1, hqI⟩ := HLI.out j (by omega)
        obtain ⟨hrng, gG, h2, hqG⟩ := HLG.out i e he
        have e1 : (natI r).getD j 0 = (i : Int) := by rw [List.getD, natI_at hri]; rfl
        have hqI2 : w2.cell? ⟨gI, oI + j, none⟩ = some (.int .i64 ((natI r).getD j 0)) := hqI
        rw [e1] at hqI2
        refine ⟨hig, gI, oI, gG, e.T, h1, hqI2, h2, hqG 0 _ rfl, ?_⟩
        unfold traL
        rw [List.getElem?_map, hri, Option.map_some, List.getD, he]; rfl
      obtain ⟨i, hri⟩ : ∃ i, r[0]? = some i := ⟨_, List.getElem?_eq_getElem hz4⟩
      obtain ⟨hig, gI, oI, gG, c0, rfl, hqI, rfl, hqG, ht0⟩ := KEY.out 0 i hri
      have hqI0 : w2.cell? ⟨gI, oI, none⟩ = some (.int .i64 (i : Int)) := by simpa using hqI
      have i1 : (i : Int) < (gs.length : Int) := by omega
      have H1 : Hid ((traL gs r).take 1 = [c0]) := by
        show _ = _
        rw [List.take_add_one, List.take_zero, ht0]; rfl
      clear hqI ht0 hri
      go_wp2_with fail
      go_loopw [13, 14, 15] (fun v13 v14 v15 wr => SpRel gs r w2 v13 v14 v15 wr) (fun _ _ v15 _ => r.length - (intOf v15).toNat)
      case atStart => exact ⟨1, by omega, by omega, rfl, by rw [H1.out]; rfl, by rw [H1.out]; rfl, rfl⟩
      case round =>
        obtain ⟨j, hj1, hj, rfl, rfl, rfl, rfl⟩ := hrel
        clear hqI0 hqG i1
        by_cases hlt : j < r.length
        · obtain ⟨i, hri⟩ : ∃ i, r[j]? = some i := ⟨_, List.getElem?_eq_getElem hlt⟩
          obtain ⟨hig, gI', oI', gG', c1, e1, hqI, e2, hqG, ht1⟩ := KEY.out j i hri
          cases e1
          cases e2
          have j1 : (j : Int) < (r.length : Int) := by omega
          have i1 : (i : Int) < (gs.length : Int) := by omega
          have hml : leastB ((traL gs r).take j) ∈ traL gs r := List.mem_of_mem_take (leastB_mem (by intro h; have := congrArg List.length h; rw [List.length_take, List.length_nil] at this; omega))
          have hmm : mostB ((traL gs r).take j) ∈ traL gs r := List.mem_of_mem_take (mostB_mem (by intro h; have := congrArg List.length h; rw [List.length_take, List.length_nil] at this; omega))
          obtain ⟨g1, g2⟩ := gd_self (HAG.out _ hml)
          obtain ⟨g3, g4⟩ := gd_self (HAG.out _ hmm)
          obtain ⟨g5, g6⟩ := gd_self (HAG.out c1 (List.mem_of_getElem? ht1))
          have HLT : Hid (flt (fb c1) (fb (leastB ((traL gs r).take j))) = decide (c1 < leastB ((traL gs r).take j))) := by show _ = _; rw [g1, g5]; exact flt_gd g6 g2
          have HGT : Hid (fgt (fb c1) (fb (mostB ((traL gs r).take j))) = decide (mostB ((traL gs r).take j) < c1)) := by
            show _ = _
            rw [g3, g5]
            obtain ⟨v1, hv1⟩ := gd_val g6
            obtain ⟨v2, hv2⟩ := gd_val g4
            rw [fgt_val hv1 hv2, ← flt_val hv2 hv1]
            exact flt_gd g4 g6
          have HML := Lib.hid (leastB_more hj1 ht1)
          have HMM := Lib.hid (mostB_more hj1 ht1)
          clear hri ht1 hml hmm g1 g2 g3 g4 g5 g6
          cases hA : decide (c1 < leastB ((traL gs r).take j)) <;> cases hC : decide (mostB ((traL gs r).take j) < c1)
          all_goals
            rw [hA] at HLT
            rw [hC] at HGT
            have f1 := HLT.out
            have f2 := HGT.out
            have HA := Lib.hid hA
            have HCC := Lib.hid hC
            clear hA hC
            go_wp2_with fail
            go_roundw
            case rel =>
              have k1 : leastB ((traL gs r).take (j + 1)) = if decide (c1 < leastB ((traL gs r).take j)) = true then c1 else leastB ((traL gs r).take j) := by rw [HML.out]; simp
              have k2 : mostB ((traL gs r).take (j + 1)) = if decide (mostB ((traL gs r).take j) < c1) = true then c1 else mostB ((traL gs r).take j) := by rw [HMM.out]; simp
              rw [HA.out] at k1
              rw [HCC.out] at k2
              exact ⟨j + 1, by omega, by omega, by go_num, by rw [k1]; rfl, by rw [k2]; rfl, rfl⟩
            case measure => simp [intOf]; omega
        · have j1 : ¬ (j : Int) < (r.length : Int) := by omega
          have HT : Hid ((traL gs r).take j = traL gs r) := List.take_of_length_le (by omega)
          have HSL := Lib.hid (gd_self (HAG.out _ (leastB_mem htne))).1
          have HSM := Lib.hid (gd_self (HAG.out _ (mostB_mem htne))).1
          go_wp2_with fail
          refine ret_tmp3 rfl rfl ?_
          rw [HT.out]
          exact ⟨_, _, by rw [HR.out]; rfl, by rw [HR.out]; exact HSL.out, by rw [HR.out]; exact HSM.out, HB2.out⟩
  · have HR : Hid (spaR gs s l bd = ⟨some 0, some 0, c⟩) := by show (if _ then _ else _) = _; rw [HC.out, if_neg h0]
    go_wp2_with fail
    refine ret_tmp3 rfl rfl ?_
    exact ⟨0, 0, by rw [HR.out]; rfl, by rw [HR.out]; exact fb0, by rw [HR.out]; exact fb0, HB2.out⟩
end Go.Proofs.Ytonmdkhfongmhaa
