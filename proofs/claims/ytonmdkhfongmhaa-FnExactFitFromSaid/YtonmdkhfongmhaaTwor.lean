/- The worst reading, told with a code: both sides. -/
import Derived.Test.YtonmdkhfongmhaaTM2
import Derived.Test.YtonmdkhfongmhaaWstrong
namespace Go.Proofs.Ytonmdkhfongmhaa
open Go.RowKit

def worR (a : Aq) (s : Si) (l : List Rd) : StrR :=
  if askF a.ok s l = 0 then
    match bestN (l.map (difF a s)) l.length with
    | none => ⟨0, some 0, 6⟩
    | some b => ⟨b, nth (l.map (difF a s)) b, 0⟩
  else ⟨0, some 0, askF a.ok s l⟩
theorem nth_dif {a : Aq} {s : Si} {l : List Rd} {j : Nat} {e : Rd} (h : l[j]? = some e) : nth (l.map (difF a s)) j = difF a s e := by simp [nth, List.getD, h]
theorem FListAt.far2 {w2 w' : World} {v : Value} {l : List Nat} (h : FListAt w2 v l) (hb : Below w2.heap.size w2 w') : FListAt w' v l := by
  obtain ⟨a, cap, e, hc, hL⟩ := h
  refine ⟨a, cap, e, hc, fun j c hc => ?_⟩
  obtain ⟨gq, e2, hq⟩ := hL j c hc
  exact ⟨gq, e2, cell_below hb hq⟩

set_option maxRecDepth 100000 in
set_option maxHeartbeats 3200000 in
theorem WorstReading_any (a : Aq) (s : Si) (hs : s.Rng) (ha : a.Rng) (v : Value) (l : List Rd) (w : World) (hlen : l.length ≤ 1048576) (hv : RAt w v l) :
    Calls Try.prog 21 #[.agg #[.float .f32 a.T, .float .f32 a.S], .agg s.cells, v] w (RetStr (worR a s l) w) := by
  have HS := Lib.hid hs
  have HV := Lib.hid hv
  have HAR := Lib.hid ha
  clear hs hv ha
  go_enter Try.func21, Try.ntmps21
  go_wp2_with (with_reducible refine wpList_box rfl ?_)
  intro bA wA hA1 hA2 hA3 hA4
  go_wp2_with (with_reducible refine wpList_box rfl ?_)
  intro b w1 hB1 hB2 hB3 hB4
  have HG := Lib.hid (hA3.later hB4)
  have HBk := Lib.hid hB3
  have HB := Lib.hid (below_next hA4 hB4)
  clear hA3 hA4 hB3 hB4
  go_wp2_with (first | ((with_reducible refine wpList_get HG.out Try.underlying42 rfl (by kernel_rfl) ?_ ?_); rfl) | ((with_reducible refine wpList_get HBk.out Try.underlying46 rfl (by kernel_rfl) ?_ ?_); rfl))
  have hone : AAt (w1.alloc (.cells #[.float .f32 a.T, .float .f32 a.S] 42)) (.slice (some ⟨w1.heap.size, 0, none⟩) 1 1) [a] := ⟨_, _, rfl, fun j e he => by
    cases j with
    | zero =>
      simp at he
      subst he
      refine ⟨HAR.out, _, rfl, fun i u hu => ?_⟩
      rw [Nat.zero_mul, Nat.zero_add]
      exact (Blk.new' w1 _ _ rfl).at (by simpa [Aq.cells] using hu)
    | succ j => simp at he⟩
  refine (fitFault_any s HS.out v _ l [a] _ hlen (by simp) ((HV.out.far HB.out).far ((Below.refl _ _).alloc (Nat.le_refl _) _)) hone).mono ?_
  clear hone
  obtain ⟨c, hc⟩ : ∃ c, askF a.ok s l = c := ⟨_, rfl⟩
  have HC := Lib.hid hc
  rw [show [a].all Aq.ok = a.ok by simp, hc]
  clear hc
  rintro e w2 ⟨rfl, hb0⟩
  have hb2 := below_next ((Below.refl w1.heap.size w1).alloc (Nat.le_refl _) _) hb0
  have HG2 := Lib.hid (HG.out.later hb2)
  have HBk2 := Lib.hid (HBk.out.later hb2)
  have HB2 := Lib.hid (below_next HB.out hb2)
  clear hb2 hb0
  by_cases h0 : c = 0
  · subst h0
    have HM := Lib.hid (mis_ok HC.out HV.out.rng)
    go_wp2_with (first | ((with_reducible refine wpList_get HG2.out Try.underlying42 rfl (by kernel_rfl) ?_ ?_); rfl))
    refine (differences_any b a s v l w2 HM.out HBk2.out (HV.out.far HB2.out)).mono ?_
    rintro e w3 ⟨v3, bl, rfl, hown3, hbl3, hb3⟩
    have hF3 := flist_of hown3
    have hll : Hid (bl.length = l.length) := by show _ = _; have := congrArg List.length hbl3; rw [List.length_map, List.length_map] at this; exact this
    have hl64 : bl.length ≤ 64 := by have := hll.out; have := HM.out.len; omega
    have HBL := Lib.hid hbl3
    have HB3 := Lib.hid (below_next HB2.out hb3)
    have hfit : ∀ c ∈ bl, Fits (fb c) := fun c hc => by
      have : fb c ∈ l.map (difF a s) := by rw [← hbl3]; exact List.mem_map_of_mem hc
      obtain ⟨e, _, he⟩ := List.mem_map.1 this
      rw [← he]; exact dif_fits _ _ _
    clear hb3 hown3 hbl3
    go_wp2_with fail
    refine (strongest_any v3 bl w3 hl64 hF3 hfit).mono ?_
    rintro e4 w4 ⟨rfl, hb4⟩
    have HB4 := Lib.hid (below_next HB3.out hb4)
    have HF4 := Lib.hid (FListAt.far2 hF3 hb4)
    clear hb4 hF3 hfit
    cases hb : bestN (bl.map fb) bl.length with
    | none =>
      have HR : Hid (worR a s l = ⟨0, some 0, 6⟩) := by show (if _ then _ else _) = _; rw [if_pos HC.out, ← HBL.out, ← hll.out, hb]
      have hz : bestI (none : Option Nat) = -1 := rfl
      clear hb
      go_wp2_with fail
      refine ret_tmp3 rfl rfl ?_
      exact ⟨0, by rw [HR.out]; rfl, by rw [HR.out]; exact fb0, HB4.out⟩
    | some b =>
      have hbj := bestN_lt hb
      obtain ⟨cb, hcb⟩ : ∃ cb, bl[b]? = some cb := ⟨_, List.getElem?_eq_getElem hbj⟩
      have HR : Hid (worR a s l = ⟨b, fb cb, 0⟩) := by show (if _ then _ else _) = _; rw [if_pos HC.out, ← HBL.out, ← hll.out, hb]; show (⟨_, nth (bl.map fb) b, 0⟩ : StrR) = _; rw [nth_map hcb]
      obtain ⟨aL, cap, rfl, _, hL⟩ := HF4.out
      obtain ⟨gq, rfl, hq⟩ := hL b cb hcb
      have b1 : (b : Int) < (bl.length : Int) := by omega
      have HZ : Hid (bestI (some b) = (b : Int)) := rfl
      rw [HZ.out]
      clear hL hb hcb
      go_wp2_with fail
      go_quiet (fail)
      go_wp2_with fail
      refine ret_tmp3 rfl rfl ?_
      exact ⟨cb, by rw [HR.out]; rfl, by rw [HR.out]; rfl, below_drawn HB4.out _⟩
  · have HR : Hid (worR a s l = ⟨0, some 0, c⟩) := by show (if _ then _ else _) = _; rw [HC.out, if_neg h0]
    go_wp2_with fail
    refine ret_tmp3 rfl rfl ?_
    exact ⟨0, by rw [HR.out]; rfl, by rw [HR.out]; exact fb0, HB2.out⟩

def WorRel (a : Aq) (s : Si) (l : List Rd) (w : World) (v10 v11 v12 : Value) (wr : World) : Prop :=
  ∃ (i b q : Nat), 1 ≤ i ∧ i ≤ l.length ∧ v12 = .int .i64 i ∧ v10 = .int .i64 b ∧ v11 = .float .f32 q ∧ bestN (l.map (difF a s)) i = some b ∧ Is q (nth (l.map (difF a s)) b) ∧ Below w.heap.size w wr

set_option maxRecDepth 100000 in
set_option maxHeartbeats 3200000 in
theorem specWorstReading_any (a : Aq) (s : Si) (hs : s.Rng) (v : Value) (l : List Rd) (w : World) (hlen : l.length ≤ 1048576) (hv : RAt w v l) :
    Calls Try.prog 18 #[.agg #[.float .f32 a.T, .float .f32 a.S], .agg s.cells, v] w (RetStr (worR a s l) w) := by
  have HS := Lib.hid hs
  have HV := Lib.hid hv
  have hgt := order_gt
  clear hs hv
  go_enter Try.func18, Try.ntmps18
  go_wp2_with (with_reducible refine wpList_box rfl ?_)
  intro bA wA hA1 hA2 hA3 hA4
  go_wp2_with (with_reducible refine wpList_box rfl ?_)
  intro b w1 hB1 hB2 hB3 hB4
  have HG := Lib.hid (hA3.later hB4)
  have HBk := Lib.hid hB3
  have HB := Lib.hid (below_next hA4 hB4)
  clear hA3 hA4 hB3 hB4
  go_wp2_with (first | ((with_reducible refine wpList_get HG.out Try.underlying42 rfl (by kernel_rfl) ?_ ?_); rfl) | ((with_reducible refine wpList_get HBk.out Try.underlying46 rfl (by kernel_rfl) ?_ ?_); rfl))
  refine (l04Asked_any a s HS.out v l w1 hlen (HV.out.far HB.out)).mono ?_
  obtain ⟨c, hc⟩ : ∃ c, askF a.ok s l = c := ⟨_, rfl⟩
  have HC := Lib.hid hc
  rw [hc]
  clear hc
  rintro e w2 ⟨rfl, hb2⟩
  have HG2 := Lib.hid (HG.out.later hb2)
  have HBk2 := Lib.hid (HBk.out.later hb2)
  have HB2 := Lib.hid (below_next HB.out hb2)
  clear hb2
  by_cases h0 : c = 0
  · subst h0
    have HM := Lib.hid (mis_ok HC.out HV.out.rng)
    obtain ⟨aL, cap, rfl, hL⟩ := HV.out.far HB2.out
    have HL := Lib.hid hL
    clear hL
    by_cases hl0 : l.length = 0
    · have HR : Hid (worR a s l = ⟨0, some 0, 6⟩) := by
        show (if _ then _ else _) = _
        rw [if_pos HC.out]
        have : l = [] := List.eq_nil_of_length_eq_zero hl0
        subst this; rfl
      have hz : (l.length : Int) = 0 := by omega
      go_wp2_with fail
      refine ret_tmp3 rfl rfl ?_
      exact ⟨0, by rw [HR.out]; rfl, by rw [HR.out]; exact fb0, HB2.out⟩
    · obtain ⟨e0, he0⟩ : ∃ e0, l[0]? = some e0 := ⟨_, List.getElem?_eq_getElem (by omega)⟩
      obtain ⟨hrng0, gq, rfl, hq0⟩ := HL.out 0 e0 he0
      have hz : ¬ (l.length : Int) = 0 := by omega
      have hz2 : (0 : Int) < (l.length : Int) := by omega
      have hz3 : l ≠ [] := fun h => hl0 (by rw [h]; rfl)
      have hz4 : 0 < l.length := by omega
      have RA := Lib.hid (row_blk HG2.out)
      have RS := Lib.hid (row_blk HBk2.out)
      have RR : Hid (RowAt w2 gq 0 #[.int .i64 e0.t, .int .i16 e0.l]) := fun i v hv => by have := hq0 i v (by rw [← Array.getElem?_toList] at hv; exact hv); simpa using this
      have HDE := Lib.hid (HM.out.down e0 (List.mem_of_getElem? he0))
      have HE0 := Lib.hid he0
      clear hq0 he0
      go_wp2_with fail
      refine wp_soft (SFl (difF a s e0)) (by kernel_rfl) (by kernel_rfl) ?_
      repeat (first | ((with_reducible refine soft_getAt (T := 81) (b := gq) (o := 0) (cs := #[.int .i64 e0.t, .int .i16 e0.l]) Try.underlying81 ?_ ?_ ?_ ?_ ?_); rfl; exact sizeRd; exact RR.out; rfl) | ((with_reducible refine soft_getAt (T := 42) (b := bA) (o := 0) (cs := #[.float .f32 a.T, .float .f32 a.S]) Try.underlying42 ?_ ?_ ?_ ?_ ?_); rfl; exact sizeAq; exact RA.out; rfl) | ((with_reducible refine soft_getAt (T := 46) (b := b) (o := 0) (cs := s.cells) Try.underlying46 ?_ ?_ ?_ ?_ ?_); rfl; exact sizeSt; exact RS.out; rfl) | (refine soft_step (fun K hK => ?_); go_simp; (try go_bits); refine hK _ ?_; clear hK K) | (refine soft_step (fun K hK => ?_); go_simp; refine ⟨_, _, ⟨rfl, rfl⟩, fun zz => ?_, ?_⟩; ((with_reducible refine (l04Difference_any a s e0 _ HDE.out).mono ?_); rintro e1 w1 ⟨q, he, hq, hb⟩; exact ⟨_, he, ⟨q, rfl, hq⟩, hb⟩); rintro v ⟨q, rfl, hq⟩; refine hK _ ?_; clear hK K))
      refine soft_nil ?_
      rintro w5 hw5
      have HX5 := Lib.hid hw5.below
      have HQ := Lib.hid hq
      clear hw5 hq RA RS RR
      go_wp2_with fail
      go_loopw [10, 11, 12] (fun v10 v11 v12 wr => WorRel a s l w2 v10 v11 v12 wr) (fun _ _ v12 _ => l.length - (intOf v12).toNat)
      case atStart => exact ⟨1, 0, q, by omega, by omega, rfl, rfl, rfl, rfl, by rw [nth_dif HE0.out]; exact HQ.out, HX5.out⟩
      case round =>
        obtain ⟨i, bb, qb, hi1, hi, rfl, rfl, rfl, hz, hqb, hB⟩ := hrel
        have HX := Lib.hid hB
        have HQB := Lib.hid hqb
        have HZ := Lib.hid hz
        have hbi := bestN_lt hz
        clear hB hqb hz
        by_cases hlt : i < l.length
        · obtain ⟨e, he⟩ : ∃ e, l[i]? = some e := ⟨_, List.getElem?_eq_getElem hlt⟩
          obtain ⟨eb, heb⟩ : ∃ eb, l[bb]? = some eb := ⟨_, List.getElem?_eq_getElem (by omega)⟩
          obtain ⟨hrng, gq', e2, hq⟩ := HL.out i e he
          cases e2
          have j1 : (i : Int) < (l.length : Int) := by omega
          have RA := Lib.hid (row_blk (HG2.out.later HX.out))
          have RS := Lib.hid (row_blk (HBk2.out.later HX.out))
          have RR : Hid (RowAt wr gq (i * 2) #[.int .i64 e.t, .int .i16 e.l]) := fun j v hv => cell_below HX.out (hq j v (by rw [← Array.getElem?_toList] at hv; exact hv))
          have HDE2 := Lib.hid (HM.out.down e (List.mem_of_getElem? he))
          have HK1 : Hid (difF a s e ≠ some 2147483648) := (dif_ok (HM.out.down e (List.mem_of_getElem? he)) hrng HM.out.pl).2
          have HK2 : Hid (difF a s eb ≠ some 2147483648) := (dif_ok (HM.out.down eb (List.mem_of_getElem? heb)) (HM.out.rng eb (List.mem_of_getElem? heb)) HM.out.pl).2
          have HN := Lib.hid (nth_dif (a := a) (s := s) he)
          have HNB := Lib.hid (nth_dif (a := a) (s := s) heb)
          have HMORE := Lib.hid (bestN_succ (l.map (difF a s)) i)
          rw [HZ.out] at HMORE
          clear hq he heb
          go_wp2_with fail
          refine wp_soft (SFl (difF a s e)) (by kernel_rfl) (by kernel_rfl) ?_
          repeat (first | ((with_reducible refine soft_getAt (T := 81) (b := gq) (o := i * 2) (cs := #[.int .i64 e.t, .int .i16 e.l]) Try.underlying81 ?_ ?_ ?_ ?_ ?_); rfl; exact sizeRd; exact RR.out; rfl) | ((with_reducible refine soft_getAt (T := 42) (b := bA) (o := 0) (cs := #[.float .f32 a.T, .float .f32 a.S]) Try.underlying42 ?_ ?_ ?_ ?_ ?_); rfl; exact sizeAq; exact RA.out; rfl) | ((with_reducible refine soft_getAt (T := 46) (b := b) (o := 0) (cs := s.cells) Try.underlying46 ?_ ?_ ?_ ?_ ?_); rfl; exact sizeSt; exact RS.out; rfl) | (refine soft_step (fun K hK => ?_); go_simp; (try go_bits); refine hK _ ?_; clear hK K) | (refine soft_step (fun K hK => ?_); go_simp; refine ⟨_, _, ⟨rfl, rfl⟩, fun zz => ?_, ?_⟩; ((with_reducible refine (l04Difference_any a s e _ HDE2.out).mono ?_); rintro e1 w1 ⟨q, he, hq, hb⟩; exact ⟨_, he, ⟨q, rfl, hq⟩, hb⟩); rintro v ⟨qe, rfl, hqe⟩; refine hK _ ?_; clear hK K))
          refine soft_nil ?_
          rintro w6 hw6
          have HX6 := Lib.hid (below_next HX.out hw6.below)
          have HQE := Lib.hid hqe
          have F1 : Hid (Fits (fb qe)) := by rw [HQE.out.out]; exact dif_fits _ _ _
          have F2 : Hid (Fits (fb qb)) := by rw [HQB.out.out, HNB.out]; exact dif_fits _ _ _
          have Z1 : Hid (fb qe ≠ some 2147483648) := by rw [HQE.out.out]; exact HK1.out
          have Z2 : Hid (fb qb ≠ some 2147483648) := by rw [HQB.out.out, HNB.out]; exact HK2.out
          clear hw6 hqe RA RS RR HK1 HK2
          go_wp2_with fail
          refine (l03Size_exact qe w6 F1.out Z1.out).mono ?_
          rintro e6 w7 ⟨ra, rfl, hra, hb7⟩
          have HX7 := Lib.hid (below_next HX6.out hb7)
          have HRA := Lib.hid hra
          clear hb7 hra
          go_wp2_with fail
          refine (l03Size_exact qb w7 F2.out Z2.out).mono ?_
          rintro e7 w8 ⟨rb, rfl, hrb, hb8⟩
          have HX8 := Lib.hid (below_next HX7.out hb8)
          have HG8 : Hid (fgt (fb ra) (fb rb) = fgt (fabs (nth (l.map (difF a s)) i)) (fabs (nth (l.map (difF a s)) bb))) := by
            show _ = _
            rw [HRA.out.out, hrb.out, HQE.out.out, HQB.out.out, HN.out]
          clear hb8 hrb
          go_wp2_with fail
          · rename_i h
            have hT : fgt (fabs (nth (l.map (difF a s)) i)) (fabs (nth (l.map (difF a s)) bb)) = true := by rw [← HG8.out]; exact h
            have HST : Hid (bestStep (nth (l.map (difF a s))) (some bb) i = some i) := by show (if _ then _ else _) = _; rw [hT]; rfl
            clear hT
            go_roundw
            case rel => exact ⟨i + 1, i, qe, by omega, by omega, by go_num, rfl, rfl, by rw [HMORE.out, HST.out], by rw [HN.out]; exact HQE.out, HX8.out⟩
            case measure => simp [intOf]; omega
          · rename_i h
            have hT : fgt (fabs (nth (l.map (difF a s)) i)) (fabs (nth (l.map (difF a s)) bb)) = false := by rw [← HG8.out]; exact h
            have HST : Hid (bestStep (nth (l.map (difF a s))) (some bb) i = some bb) := by show (if _ then _ else _) = _; rw [hT]; rfl
            clear hT
            go_roundw
            case rel => exact ⟨i + 1, bb, qb, by omega, by omega, by go_num, rfl, rfl, by rw [HMORE.out, HST.out], HQB.out, HX8.out⟩
            case measure => simp [intOf]; omega
        · have hin : i = l.length := by omega
          have j1 : ¬ (i : Int) < (l.length : Int) := by omega
          have HR : Hid (worR a s l = ⟨bb, nth (l.map (difF a s)) bb, 0⟩) := by show (if _ then _ else _) = _; rw [if_pos HC.out, ← hin, HZ.out]
          go_wp2_with fail
          refine ret_tmp3 rfl rfl ?_
          exact ⟨qb, by rw [HR.out]; rfl, by rw [HR.out]; exact HQB.out, below_next HB2.out HX.out⟩
  · have HR : Hid (worR a s l = ⟨0, some 0, c⟩) := by show (if _ then _ else _) = _; rw [HC.out, if_neg h0]
    go_wp2_with fail
    refine ret_tmp3 rfl rfl ?_
    exact ⟨0, by rw [HR.out]; rfl, by rw [HR.out]; exact fb0, HB2.out⟩
end Go.Proofs.Ytonmdkhfongmhaa
