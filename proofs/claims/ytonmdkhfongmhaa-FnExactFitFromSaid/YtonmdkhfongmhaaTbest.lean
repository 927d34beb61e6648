/- Misfits of guesses, and the best of these: both sides. -/
import Derived.Test.YtonmdkhfongmhaaGd
import Derived.Test.YtonmdkhfongmhaaTwor
namespace Go.Proofs.Ytonmdkhfongmhaa
open Go.RowKit

theorem gd_of {x : F} (h : NonN x) (hf : Fits x) : Gd x := by
  obtain ⟨b, m, e, rfl, hr⟩ := h
  have h1 := (read_canon hr).2.2.2
  have h2 := read_sign hr
  have h3 := hf b rfl
  refine ⟨b, rfl, ?_⟩
  have h4 : b / 2147483648 % 2 ≠ 1 := by intro h5; rw [h5] at h2; cases h2
  omega
theorem Gd.add {x y : F} (hx : Gd x) (hy : Gd y) {v w : Nat} (hv : Val x v) (hw : Val y w) (hl : (v + w).log2 ≤ 275) : Gd (fadd x y) := by
  have hr := add_val hv hw (by rw [show ((v : Int) + (w : Int)).natAbs = v + w by omega]; exact hl)
  refine gd_of ?_ (fadd_fits _ _)
  obtain ⟨a, rfl, ha⟩ := hx
  obtain ⟨b, rfl, hb⟩ := hy
  obtain ⟨m, e, ra, he, _⟩ := gd_read ha
  obtain ⟨n, f, rb, hf, _⟩ := gd_read hb
  obtain ⟨c, s', m', e', hc, h2, _⟩ := hr
  have h : fadd (some a) (some b) = some (Ieee.single.write (.number (if Ieee.signed false m (e - min e f).toNat + Ieee.signed false n (f - min e f).toNat = 0 then false && false else decide (Ieee.signed false m (e - min e f).toNat + Ieee.signed false n (f - min e f).toNat < 0)) (Ieee.signed false m (e - min e f).toNat + Ieee.signed false n (f - min e f).toNat).natAbs (min e f))) := by
    show ((Ieee.single.read a).sum (Ieee.single.read b)).map Ieee.single.write = _
    rw [ra, rb]; rfl
  have hs : (if Ieee.signed false m (e - min e f).toNat + Ieee.signed false n (f - min e f).toNat = 0 then false && false else decide (Ieee.signed false m (e - min e f).toNat + Ieee.signed false n (f - min e f).toNat < 0)) = false := by
    rw [signed_eq, signed_eq]
    simp only [Bool.false_eq_true, if_false]
    split
    · rfl
    · exact decide_eq_false (by omega)
  rw [hs] at h
  rw [hc] at h
  have hcw := Option.some.inj h
  rw [hcw] at h2
  have := write_sign h2
  subst this
  exact ⟨c, m', e', hc, by rw [hcw]; exact h2⟩
theorem add_caps {v w n C : Nat} (hv : v ≤ n * C) (hw : w ≤ 1 * C) : v + w ≤ (n + 1) * C := by rw [Nat.add_mul]; exact Nat.add_le_add hv hw
theorem lt_caps {v C : Nat} (h : v < C) : v ≤ 1 * C := by rw [Nat.one_mul]; exact Nat.le_of_lt h
theorem pow_caps {a b c : Nat} (h : a + b < c) : 2 ^ a * 2 ^ b < 2 ^ c := by rw [← Nat.pow_add]; exact Nat.pow_lt_pow_right (by decide) h
theorem log_caps {v n : Nat} (h : v < 2 ^ (n + 1)) : v.log2 ≤ n := by
  by_cases h0 : v = 0
  · subst h0; exact Nat.zero_le _
  · exact Nat.le_of_lt_succ ((Nat.log2_lt h0).2 h)
theorem caps_log {v n K : Nat} (hK : K ≤ 264) (hn : n + 1 ≤ 1024) (h : v ≤ (n + 1) * 2 ^ K) : v.log2 ≤ 275 := by
  have h1 : v < 2 ^ (10 + K + 1) := by
    refine Nat.lt_of_le_of_lt h (Nat.lt_of_le_of_lt (Nat.mul_le_mul_right _ (show n + 1 ≤ 2 ^ 10 from hn)) ?_)
    exact pow_caps (by omega)
  exact Nat.le_trans (log_caps h1) (by omega)
/-- What a partial sum of sizes is. -/
def Ptl (K n : Nat) (x : F) : Prop := Gd x ∧ ∃ v : Nat, Val x v ∧ v ≤ n * 2 ^ K
theorem Ptl.add {K n : Nat} {x y : F} (hK : K ≤ 264) (hx : Ptl K n x) (hy : Ptl K 1 y) (hn : n + 1 ≤ 1024) : Ptl K (n + 1) (fadd x y) := by
  obtain ⟨gx, v, hv, hv2⟩ := hx
  obtain ⟨gy, w, hw, hw2⟩ := hy
  have hle : v + w ≤ (n + 1) * 2 ^ (K + 0) := add_caps hv2 hw2
  have hlog : (v + w).log2 ≤ 275 := caps_log hK hn hle
  refine ⟨gx.add gy hv hw hlog, rnd 0 (v + w), ?_, rnd_le hle (by omega)⟩
  have := add_val hv hw (by rw [show ((v : Int) + (w : Int)).natAbs = v + w by omega]; exact hlog)
  unfold rz at this
  rw [if_neg (by omega), show ((v : Int) + (w : Int)).natAbs = v + w by omega] at this
  exact this
theorem ptl_fold {K : Nat} (hK : K ≤ 264) : ∀ (r : List F) (n : Nat) (x : F), Ptl K n x → (∀ y ∈ r, Ptl K 1 y) → n + r.length ≤ 1024 → Ptl K (n + r.length) (r.foldl fadd x)
  | [], n, x, h, _, _ => h
  | y :: r, n, x, h, hy, hn => by
    rw [List.length_cons] at hn ⊢
    have := ptl_fold hK r (n + 1) (fadd x y) (h.add hK (hy y (by simp)) (by omega)) (fun z hz => hy z (List.mem_cons_of_mem _ hz)) (by omega)
    rw [List.foldl_cons, show n + (r.length + 1) = n + 1 + r.length by omega]
    exact this
theorem ptl_sum {K : Nat} (hK : K ≤ 264) {l : List F} (h : ∀ y ∈ l, Ptl K 1 y) (hn : l.length ≤ 1024) : Ptl K 1024 (sumX l) := by
  cases l with
  | nil => exact ⟨⟨0, rfl, by omega⟩, 0, val_zero, Nat.zero_le _⟩
  | cons x r =>
    obtain ⟨g, v, h1, h2⟩ := ptl_fold hK r 1 x (h x (by simp)) (fun y hy => h y (List.mem_cons_of_mem _ hy)) (by simp at hn; omega)
    exact ⟨g, v, h1, Nat.le_trans h2 (Nat.mul_le_mul_right _ (by simp at hn; omega))⟩
theorem siz_ptl {K : Nat} (hK : K = 264) {x : F} (h : Le x 114) (hf : Fits x) : Ptl K 1 (fabs x) := by
  obtain ⟨b, s, m, e, rfl, hr, he, hm⟩ := h
  have hb := hf b rfl
  obtain ⟨_, hc, hbits, hlt⟩ := read_canon hr
  rw [fabs_num b hb (by omega)]
  obtain ⟨m', e', r', he', c', s'⟩ := gd_read hlt
  have hee : e' = e ∧ m' = m := by omega
  obtain ⟨rfl, rfl⟩ := hee
  refine ⟨⟨_, rfl, hlt⟩, m' * 2 ^ (e' + 149).toNat, ⟨_, false, m', e', rfl, r', he', by rw [signed_eq]; rfl⟩, ?_⟩
  have := shl_lt (m := m') (e := e') (base := -149) (k := 114) he hm
  rw [Nat.shiftLeft_eq] at this
  have e1 : (114 + 1 - -149 : Int).toNat = K := by omega
  rw [e1, show e' - -149 = e' + 149 by omega] at this
  exact lt_caps this
theorem mis_gd {a : Aq} {s : Si} {l : List Rd} (h : MisOk a s l) : Gd (misF a s l) := by
  obtain ⟨K, hK⟩ : ∃ K : Nat, K = 264 := ⟨_, rfl⟩
  refine (ptl_sum (K := K) (by omega) (l := l.map (sizF a s)) (fun y hy => ?_) (by have := h.len; simp; omega)).1
  obtain ⟨r, hr, rfl⟩ := List.mem_map.1 hy
  exact siz_ptl hK (dif_ok (h.down r hr) (h.rng r hr) h.pl).1 (dif_fits _ _ _)
/-- The misfit's bits. -/
def misB (s : Si) (l : List Rd) (a : Aq) : Nat := (misF a s l).getD 0
theorem misB_eq {a : Aq} {s : Si} {l : List Rd} (h : MisOk a s l) : misF a s l = some (misB s l a) ∧ misB s l a < 2139095040 := by
  obtain ⟨b, h1, h2⟩ := mis_gd h
  have : misB s l a = b := by unfold misB; rw [h1]; rfl
  rw [this]; exact ⟨h1, h2⟩
theorem fb_gd {b : Nat} (h : b < 2139095040) : fb b = some b := by
  obtain ⟨m, e, h1, _⟩ := gd_read h
  unfold fb fbOf
  rw [h1]; rfl
theorem is_misB {a : Aq} {s : Si} {l : List Rd} (h : MisOk a s l) {q : Nat} (hq : Is q (misF a s l)) : q = misB s l a := by
  have h1 : fb q = some (misB s l a) := hq.out.trans (misB_eq h).1
  exact fb_lt h1
theorem misB_all {gs : List Aq} {s : Si} {l : List Rd} (h : ∀ a ∈ gs, MisOk a s l) : AllGd (gs.map (misB s l)) := fun c hc => by
  obtain ⟨a, ha, rfl⟩ := List.mem_map.1 hc
  have := misB_eq (h a ha)
  rw [fb_gd this.2]
  exact ⟨_, rfl, this.2⟩

/-- The first place of a number. -/
def fstI (q : Nat) : List Nat → Nat
  | [] => 0
  | x :: r => if x = q then 0 else fstI q r + 1
theorem fstI_eq {q : Nat} : ∀ {l : List Nat} {i : Nat}, l[i]? = some q → (∀ c ∈ l.take i, c ≠ q) → fstI q l = i
  | [], i, h, _ => by simp at h
  | x :: r, 0, h, _ => by
    simp at h
    unfold fstI
    rw [if_pos h]
  | x :: r, i + 1, h, hn => by
    unfold fstI
    rw [if_neg (hn x (by simp)), fstI_eq (l := r) (i := i) (by simpa using h) (fun c hc => hn c (by rw [List.take_succ_cons]; exact List.mem_cons_of_mem _ hc))]

/-- The code of guesses. -/
def gesF (gs : List Aq) (s : Si) (l : List Rd) : Int := if askF (gs.all Aq.ok) s l = 0 then (if 1 ≤ gs.length ∧ gs.length ≤ 20 then 0 else 2) else 1
theorem askF_one {A : Bool} {s : Si} {l : List Rd} (h : askF A s l ≠ 0) : askF A s l = 1 := by
  unfold askF at *
  split
  · rename_i h1; rw [if_pos h1] at h; exact absurd rfl h
  · rfl
theorem ges_ok {gs : List Aq} {s : Si} {l : List Rd} (h : gesF gs s l = 0) (hr : ∀ r ∈ l, r.Rng) : (∀ a ∈ gs, MisOk a s l) ∧ 1 ≤ gs.length ∧ gs.length ≤ 20 := by
  unfold gesF at h
  split at h
  · rename_i h1
    split at h
    · rename_i h2
      refine ⟨fun a ha => mis_ok ?_ hr, h2⟩
      obtain ⟨p1, p2, p3⟩ := ask_parts h1
      unfold askF
      rw [p2, p3, List.all_eq_true.1 p1 a ha]; rfl
    · exact absurd h (by decide)
  · exact absurd h (by decide)
/-- The best guess. -/
def bstR (gs : List Aq) (s : Si) (l : List Rd) : StrR :=
  if gesF gs s l = 0 then ⟨fstI (leastB (gs.map (misB s l))) (gs.map (misB s l)), some (leastB (gs.map (misB s l))), 0⟩ else ⟨0, some 0, gesF gs s l⟩

def BsRel (gs : List Aq) (s : Si) (l : List Rd) (w : World) (v8 v9 v10 : Value) (wr : World) : Prop :=
  ∃ i b : Nat, 1 ≤ i ∧ i ≤ gs.length ∧ v10 = .int .i64 i ∧ v8 = .int .i64 b ∧ v9 = .float .f32 (leastB ((gs.map (misB s l)).take i)) ∧ (gs.map (misB s l))[b]? = some (leastB ((gs.map (misB s l)).take i)) ∧ (∀ c ∈ (gs.map (misB s l)).take b, c ≠ leastB ((gs.map (misB s l)).take i)) ∧ b < i ∧ Below w.heap.size w wr

set_option maxRecDepth 100000 in
set_option maxHeartbeats 3200000 in
theorem l04Best_any (gs : List Aq) (s : Si) (vg v : Value) (l : List Rd) (w : World) (hne : gs ≠ []) (hg64 : gs.length ≤ 64) (hm : ∀ a ∈ gs, MisOk a s l) (hg : AAt w vg gs) (hv : RAt w v l) :
    Calls Try.prog 79 #[vg, .agg s.cells, v] w fun e w' => e = .returned (.tuple #[.int .i64 (fstI (leastB (gs.map (misB s l))) (gs.map (misB s l)) : Nat), .float .f32 (leastB (gs.map (misB s l)))]) ∧ Below w.heap.size w w' := by
  have hlt' := order_lt
  have HM := Lib.hid hm
  have HV := Lib.hid hv
  clear hm hv
  go_enter Try.func79, Try.ntmps79
  go_wp2_with (with_reducible refine wpList_box rfl ?_)
  intro bS w1 hS1 hS2 hS3 hS4
  obtain ⟨aL, cap, rfl, hL⟩ := hg.far hS4
  have HL := Lib.hid hL
  have HSi := Lib.hid hS3
  have HB := Lib.hid hS4
  have HV1 := Lib.hid (HV.out.far hS4)
  clear hL hS3 hS4 hg
  obtain ⟨e0, he0⟩ : ∃ e0, gs[0]? = some e0 := ⟨_, List.getElem?_eq_getElem (by have := List.length_pos_iff.2 hne; omega)⟩
  obtain ⟨hrng0, gq, rfl, hq0⟩ := HL.out 0 e0 he0
  have hz2 : (0 : Int) < (gs.length : Int) := by have := List.length_pos_iff.2 hne; omega
  have hz4 : 0 < gs.length := by omega
  have RS := Lib.hid (row_blk HSi.out)
  have RR : Hid (RowAt w1 gq 0 #[.float .f32 e0.T, .float .f32 e0.S]) := fun i v hv => by have := hq0 i v (by rw [← Array.getElem?_toList] at hv; exact hv); simpa using this
  have HME := Lib.hid (HM.out e0 (List.mem_of_getElem? he0))
  have HE0 := Lib.hid he0
  clear hq0 he0
  go_wp2_with fail
  refine wp_soft (SFl (misF e0 s l)) (by kernel_rfl) (by kernel_rfl) ?_
  repeat (first | ((with_reducible refine soft_getAt (T := 42) (b := gq) (o := 0) (cs := #[.float .f32 e0.T, .float .f32 e0.S]) Try.underlying42 ?_ ?_ ?_ ?_ ?_); rfl; exact sizeAq; exact RR.out; rfl) | ((with_reducible refine soft_getAt (T := 46) (b := bS) (o := 0) (cs := s.cells) Try.underlying46 ?_ ?_ ?_ ?_ ?_); rfl; exact sizeSt; exact RS.out; rfl) | (refine soft_step (fun K hK => ?_); go_simp; (try go_bits); refine hK _ ?_; clear hK K) | (refine soft_step (fun K hK => ?_); go_simp; refine ⟨_, _, ⟨rfl, rfl⟩, fun zz => ?_, ?_⟩; ((with_reducible refine (l04Misfit_any e0 s _ l _ HME.out (HV1.out.far (ext_below w1 zz))).mono ?_); rintro e1 w1 ⟨q, he, hq, hb⟩; exact ⟨_, he, ⟨q, rfl, hq⟩, hb⟩); rintro v ⟨q, rfl, hq⟩; refine hK _ ?_; clear hK K))
  refine soft_nil ?_
  rintro w5 hw5
  have HX5 := Lib.hid hw5.below
  obtain rfl := is_misB HME.out hq
  clear hw5 hq RS RR
  go_wp2_with fail
  go_loopw [8, 9, 10] (fun v8 v9 v10 wr => BsRel gs s l w1 v8 v9 v10 wr) (fun _ _ v10 _ => gs.length - (intOf v10).toNat)
  case atStart =>
    have h1 : (gs.map (misB s l)).take 1 = [misB s l e0] := by
      rw [← List.map_take]
      cases gs with
      | nil => exact absurd rfl hne
      | cons x r => have := HE0.out; simp at this; subst this; rfl
    refine ⟨1, 0, by omega, by omega, rfl, rfl, by rw [h1]; rfl, ?_, by simp, by omega, HX5.out⟩
    rw [h1, List.getElem?_map, HE0.out]; rfl
  case round =>
    obtain ⟨i, b, hi1, hi, rfl, rfl, rfl, hb1, hb2, hbi, hB⟩ := hrel
    have HX := Lib.hid hB
    have HB1 := Lib.hid hb1
    have HB2 := Lib.hid hb2
    clear hB hb1 hb2
    by_cases hlt : i < gs.length
    · obtain ⟨e, he⟩ : ∃ e, gs[i]? = some e := ⟨_, List.getElem?_eq_getElem hlt⟩
      obtain ⟨hrng, gq', e2, hq⟩ := HL.out i e he
      cases e2
      have j1 : (i : Int) < (gs.length : Int) := by omega
      have RS := Lib.hid (row_blk (HSi.out.later HX.out))
      have RR : Hid (RowAt wr gq (i * 2) #[.float .f32 e.T, .float .f32 e.S]) := fun j v hv => cell_below HX.out (hq j v (by rw [← Array.getElem?_toList] at hv; exact hv))
      have HVr := Lib.hid (HV1.out.far HX.out)
      have HME2 := Lib.hid (HM.out e (List.mem_of_getElem? he))
      have hgi : (gs.map (misB s l))[i]? = some (misB s l e) := by rw [List.getElem?_map, he]; rfl
      have HGI := Lib.hid hgi
      have HMORE := Lib.hid (leastB_more hi1 hgi)
      have hmem : leastB ((gs.map (misB s l)).take i) ∈ gs.map (misB s l) := List.mem_of_getElem? HB1.out
      obtain ⟨g1, g2⟩ := gd_self (misB_all HM.out _ hmem)
      have g3 := misB_eq HME2.out
      have HLT : Hid (flt (fb (misB s l e)) (fb (leastB ((gs.map (misB s l)).take i))) = decide (misB s l e < leastB ((gs.map (misB s l)).take i))) := by
        show _ = _
        rw [g1, fb_gd g3.2]; exact flt_gd g3.2 g2
      have HLE : Hid (∀ c ∈ (gs.map (misB s l)).take i, leastB ((gs.map (misB s l)).take i) ≤ c) := fun c hc => leastB_le hc
      clear hq he hgi hmem g1 g2 g3
      go_wp2_with fail
      refine wp_soft (SFl (misF e s l)) (by kernel_rfl) (by kernel_rfl) ?_
      repeat (first | ((with_reducible refine soft_getAt (T := 42) (b := gq) (o := i * 2) (cs := #[.float .f32 e.T, .float .f32 e.S]) Try.underlying42 ?_ ?_ ?_ ?_ ?_); rfl; exact sizeAq; exact RR.out; rfl) | ((with_reducible refine soft_getAt (T := 46) (b := bS) (o := 0) (cs := s.cells) Try.underlying46 ?_ ?_ ?_ ?_ ?_); rfl; exact sizeSt; exact RS.out; rfl) | (refine soft_step (fun K hK => ?_); go_simp; (try go_bits); refine hK _ ?_; clear hK K) | (refine soft_step (fun K hK => ?_); go_simp; refine ⟨_, _, ⟨rfl, rfl⟩, fun zz => ?_, ?_⟩; ((with_reducible refine (l04Misfit_any e s _ l _ HME2.out (HVr.out.far (ext_below wr zz))).mono ?_); rintro e1 w1 ⟨q, he, hq, hb⟩; exact ⟨_, he, ⟨q, rfl, hq⟩, hb⟩); rintro v ⟨qe, rfl, hqe⟩; refine hK _ ?_; clear hK K))
      refine soft_nil ?_
      rintro w6 hw6
      have HX6 := Lib.hid (below_next HX.out hw6.below)
      obtain rfl := is_misB HME2.out hqe
      clear hw6 hqe RS RR
      cases hT : decide (misB s l e < leastB ((gs.map (misB s l)).take i))
      · rw [hT] at HLT
        have HF := HLT.out
        have HTN := Lib.hid (of_decide_eq_false hT)
        clear hT
        go_wp2_with fail
        go_roundw
        case rel =>
          have hk : leastB ((gs.map (misB s l)).take (i + 1)) = leastB ((gs.map (misB s l)).take i) := by rw [HMORE.out, if_neg HTN.out]
          exact ⟨i + 1, b, by omega, by omega, by go_num, rfl, by rw [hk], by rw [hk]; exact HB1.out, by rw [hk]; exact HB2.out, by omega, HX6.out⟩
        case measure => simp [intOf]; omega
      · rw [hT] at HLT
        have HF := HLT.out
        have HTN := Lib.hid (of_decide_eq_true hT)
        clear hT
        go_wp2_with fail
        go_roundw
        case rel =>
          have hk : leastB ((gs.map (misB s l)).take (i + 1)) = misB s l e := by rw [HMORE.out, if_pos HTN.out]
          refine ⟨i + 1, i, by omega, by omega, by go_num, rfl, by rw [hk], by rw [hk]; exact HGI.out, fun c hc => ?_, by omega, HX6.out⟩
          rw [hk]
          have h1 := HLE.out c hc
          have h2 := HTN.out
          omega
        case measure => simp [intOf]; omega
    · have j1 : ¬ (i : Int) < (gs.length : Int) := by omega
      have HT : Hid ((gs.map (misB s l)).take i = gs.map (misB s l)) := List.take_of_length_le (by simp; omega)
      rw [HT.out] at HB1 HB2
      have HFI := Lib.hid (fstI_eq HB1.out HB2.out)
      go_wp2_with fail
      go_ret2
      exact ⟨by rw [HFI.out, HT.out]; rfl, below_next HB.out HX.out⟩
end Go.Proofs.Ytonmdkhfongmhaa
