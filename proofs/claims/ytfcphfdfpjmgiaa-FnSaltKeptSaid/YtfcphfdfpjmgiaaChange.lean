/- The greatest change of heads between two grounds. -/
import Derived.Test.YtfcphfdfpjmgiaaGreat
import Derived.Test.YtfcphfdfpjmgiaaTail
namespace Go.Proofs.Ytfcphfdfpjmgiaa
open Go.RowKit

def df (m m' : M) (i : Nat) : F := fsub (m'.h i) (m.h i)
def chg (m m' : M) : F :=
  match bestOf (df m m') (cellsM m) with
  | some b => fabs (df m m' b)
  | none => none
def chF (m m' : M) (l : List Nat) (i : Nat) : F := if i < 64 then (if i ∈ l then df m m' i else some 0) else none
theorem chF_snoc {m m' : M} {l : List Nat} {c : Nat} (hc : c < 64) : chF m m' (l ++ [c]) = upd (chF m m' l) c (df m m' c) := by
  funext i
  unfold chF upd
  by_cases e : i = c
  · subst e; simp [hc]
  · simp [e]
theorem chF_nil (m m' : M) : fm (fun _ => 0) = chF m m' [] := by
  funext i
  unfold fm chF
  simp [fb0]
theorem chF_fits (m m' : M) (l : List Nat) (i : Nat) : Fits (chF m m' l i) := by
  unfold chF
  split
  · split
    · exact fsub_fits _ _
    · intro b h; cases h; decide
  · intro b h; cases h
theorem chF_mem {m m' : M} {l : List Nat} {c : Nat} (hc : c < 64) (h : c ∈ l) : chF m m' l c = df m m' c := by
  unfold chF; rw [if_pos hc, if_pos h]
def ChgRel (m m' : M) (w1 : World) (B : Nat) (v12 : Value) (wr : World) : Prop :=
  ∃ (j : Nat) (f : Nat → Nat), j ≤ (cellsM m).length ∧ v12 = .int .i64 j ∧ fm f = chF m m' ((cellsM m).take j) ∧ Blk wr B (arrF f) 27 ∧ w1.grownBy wr (some B)

set_option maxRecDepth 100000 in
set_option maxHeartbeats 800000 in
theorem change_any (b o b' o' : Nat) (g g' : G) (w : World) (hs : g.Sane) (hg : GAt w b o g) (hg' : GAt w b' o' g') :
    Calls Try.prog 190 #[.pointer (some ⟨b, o, none⟩), .pointer (some ⟨b', o', none⟩)] w (RetF (chg g.m g'.m) w) := by
  have hbl : b < w.heap.size := block_lt_of_cell (hg 0 (by omega))
  have hbl' : b' < w.heap.size := block_lt_of_cell (hg' 0 (by omega))
  have hr := hs.rng
  go_enter Try.func190, Try.ntmps190
  go_wp2_with (first | (with_reducible refine wpList_new newF ?_) | (with_reducible refine wpList_zero (zeroF _) ?_) | (with_reducible refine wpList_new newG ?_) | (with_reducible refine wpList_zero (zeroG _) ?_))
  intro B wB hB1 hB2 hB3 hB4
  go_wp2_with (refine wpList_putF hB3 rfl rfl ?_)
  intro wC hC1 hC2 hC3
  have hgC := (hg.below hB4).grown hC3 (by omega)
  have hgC' := (hg'.below hB4).grown hC3 (by omega)
  have HBC := below_grown hB4 hC3 hB4.size hB1
  clear hB3 hB4 hg hg' hC3
  go_wp2_with fail
  refine (cells_any b o g wC hr hgC).mono ?_
  rintro e w1 ⟨v, rfl, hown, hb1⟩
  obtain ⟨aL, cap, rfl, hL⟩ := list_form hown
  have hg1 := Lib.hid (hgC.below hb1)
  have hg1' := Lib.hid (hgC'.below hb1)
  have hBl1 := Lib.hid (hC2.later hb1)
  have HBW := Lib.hid (HBC.trans (hb1.mono HBC.size))
  have HL := Lib.hid hL
  have hB1' : B < wC.heap.size := hC2.lt
  clear hL hown hgC hgC' hC2 hb1 HBC
  go_wp2_with fail
  go_loopw [12] (fun v12 wr => ChgRel g.m g'.m w1 B v12 wr) (fun v12 _ => (cellsM g.m).length - (intOf v12).toNat)
  case atStart => exact ⟨0, _, by omega, rfl, chF_nil _ _, hBl1.out, grown_refl _ _⟩
  case round =>
    obtain ⟨j, f, hj, rfl, hf, hB, hgr⟩ := hrel
    have HF := Lib.hid hf
    have HG := Lib.hid (hg1.out.grown hgr (by omega))
    have HG' := Lib.hid (hg1'.out.grown hgr (by omega))
    have HB := Lib.hid hB
    have HGR := Lib.hid hgr
    clear hf hB hgr
    by_cases hlt : j < (cellsM g.m).length
    · obtain ⟨c, hc⟩ : ∃ c, (cellsM g.m)[j]? = some c := ⟨_, List.getElem?_eq_getElem hlt⟩
      have hc64 : c < 64 := cellsTo_lt (List.mem_of_getElem? hc)
      have hj64 : j < 64 := Nat.lt_of_lt_of_le hlt (cellsTo_length _ _ _)
      obtain ⟨gq, rfl, hq1, hq2, hq3⟩ := HL.out j c hc
      have hcell := cell_grown hq3 HGR.out (by omega)
      have HC := Lib.hid hc
      have hc64' : (c : Int) < 64 := by omega
      have hlt' : (j : Int) < ((cellsTo g.wide g.high 64).length : Int) := by have : j < (cellsTo g.wide g.high 64).length := hlt; omega
      have q1 := fun x => ext_cell wr x (HG.out.h hc64)
      have q2 := fun x => ext_cell wr x (HG'.out.h hc64)
      clear hq3 hc
      go_wp2_with fail
      refine wp_soft_tail 15 (SF none) (by kernel_rfl) (by kernel_rfl) ?_
      simp only [List.take_succ_cons, List.take_zero, List.drop_succ_cons, List.drop_zero]
      repeat (first | (refine soft_arith (fun _ n h => h.drewN n) _ _ rfl rfl rfl ?_; intro r hr) | (refine soft_step (fun K hK => ?_); go_simp; (try go_bits); refine hK _ ?_; clear hK K))
      refine soft_nil ?_
      rintro w2 hw2
      have HB2 := HB.out.later hw2.below
      have H2 := hw2.below
      clear q1 q2 hw2
      go_wp2_with (refine wpList_setF HB2 hc64 rfl rfl ?_)
      intro w3 h31 h32 h33
      have H32 := Lib.hid h32
      have HG3 := Lib.hid ((grown_trans (grown_trans HGR.out (grown_below H2)) h33 : w1.grownBy w3 (some B)))
      have hfin : fm (upd f c r) = chF g.m g'.m ((cellsM g.m).take (j + 1)) := by
        rw [take_more HC.out, chF_snoc hc64, fm_upd hc64, HF.out, hr.out]
        show _ = upd _ _ (fsub (fm g'.h c) (fm g.h c))
        rw [fm_of hc64, fm_of hc64]; rfl
      have HFIN := Lib.hid hfin
      clear h32 H2 HB2 h33 hfin hr hcell
      go_wp2_with fail
      go_roundw
      case rel => exact ⟨j + 1, upd f c r, by omega, by go_num, HFIN.out, H32.out, HG3.out⟩
      case measure => simp [intOf]; omega
    · have hjn : j = (cellsM g.m).length := by omega
      have hlt' : ¬ (j : Int) < ((cellsTo g.wide g.high 64).length : Int) := by have : ¬ j < (cellsTo g.wide g.high 64).length := hlt; omega
      have HF2 : Hid (fm f = chF g.m g'.m (cellsM g.m)) := by
        have := HF.out
        rw [List.take_of_length_le (Nat.le_of_eq hjn.symm)] at this; exact this
      have HBw := Lib.hid (below_grown HBW.out HGR.out HBW.out.size (by omega))
      obtain ⟨bb, hbb⟩ := bestOf_some (d := df g.m g'.m) (cells_ne (m := g.m) hs.lW hs.lH)
      have hmem := bestOf_mem hbb
      have hb64 : bb < 64 := cellsTo_lt hmem
      have hbest : bestOf (fm f) (cellsM g.m) = some bb := by
        rw [HF2.out, bestOf_congr (d := chF g.m g'.m (cellsM g.m)) (d' := df g.m g'.m) (l := cellsM g.m) fun c hc => chF_mem (cellsTo_lt hc) hc]; exact hbb
      have HBEST := Lib.hid hbest
      have HCHG : Hid (chg g.m g'.m = fabs (fb (f bb))) := by
        show chg _ _ = _
        unfold chg
        rw [hbb]
        have := congrFun HF2.out bb
        rw [fm_of hb64, chF_mem hb64 hmem] at this
        rw [this]
      have HFITS : Hid (∀ c, Fits (fm f c)) := by show ∀ c, _; intro c; rw [HF2.out]; exact chF_fits _ _ _ _
      clear hjn hbest hbb hmem
      go_wp2_with fail
      refine (cells_any b o g wr hr HG.out).mono ?_
      rintro e w2 ⟨v2, rfl, hown2, hb2⟩
      obtain ⟨aL2, cap2, rfl, hL2⟩ := list_form hown2
      have HB2 := Lib.hid (HB.out.later hb2)
      have HBw2 := Lib.hid (HBw.out.trans (hb2.mono HBw.out.size))
      clear hb2 hown2
      have hfat : FAt w2 B 0 f := fun i hi => by rw [Nat.zero_add]; exact HB2.out.at (arrF_get f hi)
      go_wp2_with fail
      refine (greatest_any B _ (cellsM g.m) f w2 (fun c hc => cellsTo_lt hc) (cellsTo_length _ _ _) HFITS.out ⟨aL2, cap2, rfl, fun j c hjc => by obtain ⟨gq, h1, _, _, h2⟩ := hL2 j c hjc; exact ⟨gq, h1, h2⟩⟩ hfat).mono ?_
      rw [HBEST.out]
      rintro e w3 ⟨rfl, hb3⟩
      have HB3 := Lib.hid (HB2.out.later hb3)
      have HBw3 := Lib.hid (HBw2.out.trans (hb3.mono HBw2.out.size))
      have hcell := HB3.out.at (arrF_get f hb64)
      have hb1 : (bb : Int) < 64 := by omega
      have hbi : bestI (some bb) = (bb : Int) := rfl
      clear hb3 hL2 hfat
      rw [hbi]
      go_wp2_with fail
      refine (size_any _ _ _ Is.rfl (by have := HFITS.out bb; rw [fm_of hb64] at this; exact this)).mono ?_
      rintro e w4 ⟨r, rfl, hr4, hb4⟩
      have HBw4 := Lib.hid (HBw3.out.trans (hb4.mono HBw3.out.size))
      clear hb4
      go_wp2_with fail
      go_ret
      exact ⟨_, rfl, by rw [HCHG.out]; exact hr4, HBw4.out⟩

set_option maxHeartbeats 400000 in
theorem l02Greater_any (a b : Nat) (w : World) :
    Calls Try.prog 198 #[.float .f32 a, .float .f32 b] w (RetF (if fgt (fb b) (fb a) then fb b else fb a) w) := by
  have hgt := order_gt
  cases h : fgt (fb b) (fb a)
  · go_enter Try.func198, Try.ntmps198
    go_wp2_with fail
    go_ret
    exact ⟨a, rfl, rfl, Below.refl _ _⟩
  · go_enter Try.func198, Try.ntmps198
    go_wp2_with fail
    go_ret
    exact ⟨b, rfl, rfl, Below.refl _ _⟩

/-- The callees' words: the size of what it is given, the greater of two. -/
def SGr (_ : FuncId) (args : Array Value) (v : Value) : Prop :=
  (∃ a r, args = #[.float .f32 a] ∧ v = .float .f32 r ∧ Is r (fabs (fb a))) ∨ ∃ a b r, args = #[.float .f32 a, .float .f32 b] ∧ v = .float .f32 r ∧ Is r (if fgt (fb b) (fb a) then fb b else fb a)

def ChgRelS (m m' : M) (w : World) (v5 v6 : Value) (wr : World) : Prop :=
  ∃ k r bb : Nat, 1 ≤ k ∧ k ≤ 64 ∧ v6 = .int .i64 k ∧ v5 = .float .f32 r ∧ bestOf (df m m') (cellsTo m.wide m.high k) = some bb ∧ Is r (fabs (df m m' bb)) ∧ Below w.heap.size w wr

set_option maxRecDepth 100000 in
set_option maxHeartbeats 800000 in
theorem l02Change_any (b o b' o' : Nat) (g g' : G) (w : World) (hs : g.Sane) (hg : GAt w b o g) (hg' : GAt w b' o' g') :
    Calls Try.prog 191 #[.pointer (some ⟨b, o, none⟩), .pointer (some ⟨b', o', none⟩)] w (RetF (chg g.m g'.m) w) := by
  have hr := hs.rng
  have q1 := fun x => ext_cell w x (hg.h (k := 0) (by omega))
  have q2 := fun x => ext_cell w x (hg'.h (k := 0) (by omega))
  simp only [Nat.add_zero] at q1 q2
  go_enter Try.func191, Try.ntmps191
  go_wp2_with fail
  refine wp_soft SGr (by kernel_rfl) (by kernel_rfl) ?_
  repeat (first | (refine soft_arith (fun _ n h => h.drewN n) _ _ rfl rfl rfl ?_; intro r hr) | (refine soft_step (fun K hK => ?_); go_simp; (try go_bits); refine hK _ ?_; clear hK K) | (refine soft_step (fun K hK => ?_); go_simp; refine ⟨_, _, ⟨rfl, rfl⟩, fun x => (l01Size_any _ _ _ Is.rfl).mono ?_, ?_⟩; (rintro e w1 ⟨r, he, hr, hb⟩; exact ⟨_, he, .inl ⟨_, r, rfl, rfl, hr⟩, hb⟩); rintro v (⟨_, r, e, rfl, hr⟩ | ⟨_, _, r, e, _⟩) <;> cases e; refine hK _ ?_; clear hK K))
  refine soft_nil ?_
  rintro w1 hw1
  rename_i rd hrd
  have HB1 := Lib.hid hw1.below
  have H0 : Hid (fabs (fb rd) = fabs (df g.m g'.m 0)) := by
    show fabs _ = _
    rw [hrd.out]
    show fabs (fsub _ _) = fabs (fsub (fm g'.h 0) (fm g.h 0))
    rw [fm_of (by omega), fm_of (by omega)]
  clear hw1 q1 q2
  have h00 : cellsTo g.wide g.high 1 = [0] := by
    rw [cellsTo_yes (has0 hs.lW hs.lH)]; rfl
  go_wp2_with fail
  go_loopw [5, 6] (fun v5 v6 wr => ChgRelS g.m g'.m w v5 v6 wr) (fun _ v6 _ => 64 - (intOf v6).toNat)
  case atStart => exact ⟨1, r, 0, by omega, by omega, rfl, rfl, by show bestOf _ (cellsTo g.wide g.high 1) = _; rw [h00]; rfl, by rw [← H0.out]; exact hr, HB1.out⟩
  case round =>
    obtain ⟨k, rm, bb, hk1, hk, rfl, rfl, hbb, hrm, hB⟩ := hrel
    have HBB := Lib.hid hbb
    have HRM := Lib.hid hrm
    have HG := Lib.hid (hg.below hB)
    have HG' := Lib.hid (hg'.below hB)
    have HB := Lib.hid hB
    clear hbb hrm hB hg hg' h00 hrd hr H0 HB1
    by_cases hlt : k < 64
    · have k1 : (k : Int) < 64 := by omega
      cases hh : hasB g.wide g.high k
      · have HH := Lib.hid hh
        clear hh
        go_wp2_with (go_at_call 111; refine (l01Is_any b o k g _ hlt (by assumption) HG.out).mono ?_; rw [HH.out]; rintro e w' ⟨rfl, rfl⟩)
        go_roundw
        case rel => exact ⟨k + 1, rm, bb, by omega, by omega, by go_num, rfl, by rw [cellsTo_no (W := (G.m g).wide) (H := (G.m g).high) HH.out]; exact HBB.out, HRM.out, HB.out⟩
        case measure => simp [intOf]; omega
      · have HH := Lib.hid hh
        clear hh
        have q1 := fun x => ext_cell wr x (HG.out.h hlt)
        have q2 := fun x => ext_cell wr x (HG'.out.h hlt)
        go_wp2_with (go_at_call 111; refine (l01Is_any b o k g _ hlt (by assumption) HG.out).mono ?_; rw [HH.out]; rintro e w' ⟨rfl, rfl⟩)
        refine wp_soft SGr (by kernel_rfl) (by kernel_rfl) ?_
        repeat (first | (refine soft_arith (fun _ n h => h.drewN n) _ _ rfl rfl rfl ?_; intro r hr) | (refine soft_step (fun K hK => ?_); go_simp; (try go_bits); refine hK _ ?_; clear hK K) | (refine soft_step (fun K hK => ?_); go_simp; refine ⟨_, _, ⟨rfl, rfl⟩, fun x => (l01Size_any _ _ _ Is.rfl).mono ?_, ?_⟩; (rintro e w1 ⟨r, he, hr, hb⟩; exact ⟨_, he, .inl ⟨_, r, rfl, rfl, hr⟩, hb⟩); rintro v (⟨_, r, e, rfl, hr⟩ | ⟨_, _, r, e, _⟩) <;> cases e; refine hK _ ?_; clear hK K) | (refine soft_step (fun K hK => ?_); go_simp; refine ⟨_, _, ⟨rfl, rfl⟩, fun x => (l02Greater_any _ _ _).mono ?_, ?_⟩; (rintro e w1 ⟨r, he, hr, hb⟩; exact ⟨_, he, .inr ⟨_, _, r, rfl, rfl, hr⟩, hb⟩); rintro v (⟨_, r, e, _⟩ | ⟨_, _, r, e, rfl, hr⟩) <;> cases e; refine hK _ ?_; clear hK K))
        refine soft_nil ?_
        rintro w2 hw2
        rename_i r1 hr1 r2 hr2
        have HB2 := Lib.hid (HB.out.trans (hw2.below.mono HB.out.size))
        have HN : Hid (∃ b2, bestOf (df g.m g'.m) (cellsTo g.wide g.high (k + 1)) = some b2 ∧ Is r (fabs (df g.m g'.m b2))) := by
          have e1 : fb r1 = df g.m g'.m k := by
            rw [hr1.out]
            show fsub _ _ = fsub (fm g'.h k) (fm g.h k)
            rw [fm_of hlt, fm_of hlt]
          have e2 : fb r2 = fabs (df g.m g'.m k) := by rw [hr2.out, e1]
          have e3 := hr.out
          rw [e2, HRM.out.out] at e3
          rw [cellsTo_yes HH.out, bestOf_snoc, show bestOf (df g.m g'.m) (cellsTo g.wide g.high k) = some bb from HBB.out]
          show ∃ b2, (if fgt (fabs (df g.m g'.m k)) (fabs (df g.m g'.m bb)) then some k else some bb) = some b2 ∧ _
          cases hc : fgt (fabs (df g.m g'.m k)) (fabs (df g.m g'.m bb))
          · rw [hc] at e3
            exact ⟨bb, rfl, e3⟩
          · rw [hc] at e3
            exact ⟨k, rfl, e3⟩
        clear hw2 hr1 hr2 hr q1 q2
        go_wp2_with fail
        go_roundw
        case rel =>
          obtain ⟨b2, hb2, hr3⟩ := HN.out
          exact ⟨k + 1, r, b2, by omega, by omega, by go_num, rfl, hb2, hr3, HB2.out⟩
        case measure => simp [intOf]; omega
    · have hk64 : k = 64 := by omega
      subst hk64
      go_wp2_with fail
      go_ret
      refine ⟨rm, rfl, ?_, HB.out⟩
      have h1 : bestOf (df g.m g'.m) (cellsM g.m) = some bb := HBB.out
      unfold chg
      rw [h1]
      exact HRM.out
end Go.Proofs.Ytfcphfdfpjmgiaa
