/- The better one of the aquifers beside one, by the program. -/
import Derived.Test.YtonmdkhfongmhaaTtry
namespace Go.Proofs.Ytonmdkhfongmhaa
open Go.RowKit

def lstB (s : Si) (l : List Rd) (L : List Aq) : Nat := leastB (L.map (misB s l))
def bstA (s : Si) (l : List Rd) (L : List Aq) : Aq := (L[fstI (lstB s l L) (L.map (misB s l))]?).getD ⟨0, 0⟩
theorem leastB_snoc {ms : List Nat} (h : ms ≠ []) (x : Nat) : leastB (ms ++ [x]) = if x < leastB ms then x else leastB ms := by
  cases ms with
  | nil => exact absurd rfl h
  | cons y r =>
    show (r ++ [x]).foldl _ y = _
    rw [List.foldl_append]; rfl
theorem fstI_mem {q : Nat} : ∀ {ms : List Nat}, q ∈ ms → ∀ r, fstI q (ms ++ r) = fstI q ms
  | [], h, _ => by cases h
  | x :: t, h, r => by
    rw [List.cons_append]
    unfold fstI
    by_cases e : x = q
    · rw [if_pos e, if_pos e]
    · rw [if_neg e, if_neg e, fstI_mem (by rcases List.mem_cons.1 h with h | h; exact absurd h.symm e; exact h) r]
theorem fstI_new {q : Nat} : ∀ {ms : List Nat}, q ∉ ms → fstI q (ms ++ [q]) = ms.length
  | [], _ => by unfold fstI; rw [List.nil_append]; simp
  | x :: t, h => by
    rw [List.cons_append]
    unfold fstI
    rw [if_neg (fun e => h (by rw [e]; simp)), fstI_new (fun h2 => h (List.mem_cons_of_mem _ h2)), List.length_cons]
theorem fstI_lt {q : Nat} : ∀ {ms : List Nat}, q ∈ ms → fstI q ms < ms.length
  | [], h => by cases h
  | x :: t, h => by
    unfold fstI
    by_cases e : x = q
    · rw [if_pos e]; simp
    · rw [if_neg e, List.length_cons]
      have := fstI_lt (ms := t) (by rcases List.mem_cons.1 h with h | h; exact absurd h.symm e; exact h)
      omega
theorem bst_one (s : Si) (l : List Rd) (e : Aq) : lstB s l [e] = misB s l e ∧ bstA s l [e] = e := by
  have h1 : lstB s l [e] = misB s l e := rfl
  refine ⟨h1, ?_⟩
  unfold bstA
  rw [h1]
  have : fstI (misB s l e) ([e].map (misB s l)) = 0 := by
    show (if misB s l e = misB s l e then 0 else _) = 0
    rw [if_pos rfl]
  rw [this]; rfl
theorem bst_less {s : Si} {l : List Rd} {L : List Aq} {e : Aq} (hL : L ≠ []) (h : misB s l e < lstB s l L) : lstB s l (L ++ [e]) = misB s l e ∧ bstA s l (L ++ [e]) = e := by
  have hm : L.map (misB s l) ≠ [] := by simpa using hL
  have h1 : lstB s l (L ++ [e]) = misB s l e := by
    unfold lstB at *
    rw [List.map_append, List.map_cons, List.map_nil, leastB_snoc hm, if_pos h]
  refine ⟨h1, ?_⟩
  unfold bstA
  rw [h1, List.map_append, List.map_cons, List.map_nil, fstI_new (fun h2 => by have := leastB_le h2; unfold lstB at h; omega), List.length_map, List.getElem?_append_right (Nat.le_refl _), Nat.sub_self]
  rfl
theorem bst_keep {s : Si} {l : List Rd} {L : List Aq} {e : Aq} (hL : L ≠ []) (h : ¬ misB s l e < lstB s l L) : lstB s l (L ++ [e]) = lstB s l L ∧ bstA s l (L ++ [e]) = bstA s l L := by
  have hm : L.map (misB s l) ≠ [] := by simpa using hL
  have h1 : lstB s l (L ++ [e]) = lstB s l L := by
    unfold lstB at *
    rw [List.map_append, List.map_cons, List.map_nil, leastB_snoc hm, if_neg h]
  refine ⟨h1, ?_⟩
  unfold bstA
  have hmem : lstB s l L ∈ L.map (misB s l) := leastB_mem hm
  rw [h1, List.map_append, fstI_mem hmem]
  have := fstI_lt hmem
  rw [List.length_map] at this
  rw [List.getElem?_append_left this]
theorem bst_mem {s : Si} {l : List Rd} {L : List Aq} (hL : L ≠ []) : L[fstI (lstB s l L) (L.map (misB s l))]? = some (bstA s l L) ∧ bstA s l L ∈ L := by
  have hm : L.map (misB s l) ≠ [] := by simpa using hL
  have hmem : lstB s l L ∈ L.map (misB s l) := leastB_mem hm
  have := fstI_lt hmem
  rw [List.length_map] at this
  have h2 : L[fstI (lstB s l L) (L.map (misB s l))]? = some (bstA s l L) := by
    unfold bstA
    rw [List.getElem?_eq_getElem this]; rfl
  exact ⟨h2, List.mem_of_getElem? h2⟩
theorem lst_gd {s : Si} {l : List Rd} {L : List Aq} (h : ∀ a ∈ L, MisOk a s l) : fb (lstB s l L) = some (lstB s l L) ∧ lstB s l L < 2139095040 := by
  by_cases hL : L = []
  · subst hL; exact ⟨show fb 0 = some 0 by decide, show 0 < 2139095040 by decide⟩
  · exact gd_self (misB_all h _ (leastB_mem (by simpa using hL)))
theorem filter_len {a : Aq} {j : Nat} : (((trA a).take j).filter Aq.ok).length ≤ 4 := Nat.le_trans (List.length_filter_le _ _) (by rw [List.length_take]; show min j 4 ≤ 4; omega)

def BtRel (a : Aq) (s : Si) (l : List Rd) (B : Nat) (wm : World) (v12 v13 v46 : Value) (wr : World) : Prop :=
  ∃ j : Nat, j ≤ 4 ∧ v46 = .int .i64 j ∧ v13 = .bool (!(((trA a).take j).filter Aq.ok).isEmpty) ∧ v12 = .float .f32 (lstB s l (((trA a).take j).filter Aq.ok)) ∧
    Blk wr B #[.float .f32 (bstA s l (((trA a).take j).filter Aq.ok)).T, .float .f32 (bstA s l (((trA a).take j).filter Aq.ok)).S] 42 ∧ wm.grownBy wr (some B)

set_option maxRecDepth 100000 in
set_option maxHeartbeats 6400000 in
theorem better_any (p m : Nat) (a : Aq) (s : Si) (v : Value) (l : List Rd) (w : World) (hok : a.ok = true) (hmi : ∀ e : Aq, e.ok = true → MisOk e s l) (hmb : fb m = some m ∧ m < 2139095040) (hs : Blk w p s.cells 46) (hv : RAt w v l) :
    Calls Try.prog 81 #[.pointer (some ⟨p, 0, none⟩), .agg #[.float .f32 a.T, .float .f32 a.S], .float .f32 m, v] w fun e w' =>
      e = .returned (.tuple #[.agg #[.float .f32 (bstA s l (trL a)).T, .float .f32 (bstA s l (trL a)).S], .float .f32 (lstB s l (trL a)), .bool (!(trL a).isEmpty && decide (lstB s l (trL a) < m))]) ∧ Below w.heap.size w w' := by
  obtain ⟨h1, h2⟩ := ok_les hok
  have hlt := order_lt
  have HMI := Lib.hid hmi
  have HS0 := Lib.hid hs
  have HV := Lib.hid hv
  have HMB := Lib.hid hmb
  have hpl : p < w.heap.size := hs.lt
  have hzero : ∀ w : World, (Instr.build 42 #[]).run Try.prog w = .ok (.agg #[.float .f32 0, .float .f32 0]) w := fun w => by kernel_rfl
  clear hmi hs hv hmb
  go_enter Try.func81, Try.ntmps81
  go_wp2_with (with_reducible refine wpList_box rfl ?_)
  intro bA wA hA1 hA2 hA3 hA4
  go_wp2_with (with_reducible refine wpList_new newA ?_)
  intro R wR hR1 hR2 hR3 hR4
  have hA5 := hA3.later hR4
  have hX5 := below_next hA4 hR4
  clear hA3 hA4 hR4
  go_wp2_with (first | (with_reducible refine wpList_zero (hzero _) ?_) | (with_reducible refine wpList_new newA ?_))
  intro B wB hB1 hB2 hB3 hB4
  have hA6 := hA5.later hB4
  have hR6 := hR3.later hB4
  have hX6 := below_next hX5 hB4
  clear hA5 hR3 hX5 hB4
  go_wp2_with ((with_reducible refine wpList_gateS ?_); refine wpList_put (cells := #[.float .f32 0, .float .f32 0]) hB3 sizeAq rfl (by simp [Value.oneCell']) rfl rfl ?_)
  intro wC sC bC kC
  have hA7 := hA6.grown kC (by omega)
  have hR7 := hR6.grown kC (by omega)
  have HX7 := Lib.hid (below_grown hX6 kC hX6.size (by omega))
  have hT := hA7.at (i := 0) rfl
  have hS := hA7.at (i := 1) rfl
  clear hA6 hR6 hX6 hB3 kC sC
  go_wp2_with (first | ((with_reducible refine wpList_gate ?_); refine wpList_arith _ _ rfl rfl rfl ?_; intro r n hr))
  rename_i r1 n1 hr1 r2 n2 hr2 r3 n3 hr3 K ha
  obtain ⟨rfl, _⟩ := mulB_of h1 leR (by omega) hr1
  obtain ⟨rfl, _⟩ := mulB_of h1 leD (by omega) hr2
  obtain ⟨rfl, _⟩ := mulB_of h2 leR (by omega) hr3
  obtain ⟨rfl, _⟩ := mulB_of h2 leD (by omega) hr
  obtain ⟨w3, hw3⟩ : ∃ w3, (wC.drewN (n1 + n2 + n3 + n)).alloc (.cells #[.float .f32 (mulB a.T 1067450368), .float .f32 a.S, .float .f32 (mulB a.T 1061997773), .float .f32 a.S, .float .f32 a.T, .float .f32 (mulB a.S 1067450368), .float .f32 a.T, .float .f32 (mulB a.S 1061997773)] 42) = w3 := ⟨_, rfl⟩
  have hgb : Blk w3 wC.heap.size (trCells a) 42 := by rw [← hw3]; exact Blk.new' _ _ _ rfl
  have HX3 : Hid (Below w.heap.size w w3) := by
    show Below _ _ _
    rw [← hw3]
    exact (below_drawn HX7.out _).alloc HX7.out.size _
  have hbl3 : Below wC.heap.size wC w3 := by rw [← hw3]; exact (below_drawn (Below.refl _ _) _).alloc (Nat.le_refl _) _
  have HR3 := Lib.hid (hR7.later hbl3)
  have HB3 := Lib.hid (bC.later hbl3)
  obtain ⟨g, hg⟩ : ∃ g, wC.heap.size = g := ⟨_, rfl⟩
  have hBC : B < wC.heap.size := bC.lt
  rw [hg] at hgb
  have HG := Lib.hid hgb
  have hB3l : B < w3.heap.size := HB3.out.lt
  rw [hw3, hg]
  clear hw3 hgb hT hS hr1 hr2 hr3 hr hbl3 hA7 hR7 bC
  go_loopw [12, 13, 46] (fun v12 v13 v46 wr => BtRel a s l B w3 v12 v13 v46 wr) (fun _ _ v46 _ => 4 - (intOf v46).toNat)
  case atStart => exact ⟨0, by omega, rfl, rfl, rfl, HB3.out, grown_refl _ _⟩
  case round =>
    obtain ⟨j, hj, rfl, rfl, rfl, hBb, hgr⟩ := hrel
    have HBb := Lib.hid hBb
    have HGR := Lib.hid hgr
    have HXr := Lib.hid (below_grown HX3.out hgr HX3.out.size (by omega))
    have hsz := hgr.size
    clear hBb hgr
    by_cases hlt4 : j < 4
    · obtain ⟨e, he⟩ : ∃ e, (trA a)[j]? = some e := ⟨_, List.getElem?_eq_getElem (show j < (trA a).length from hlt4)⟩
      have HQ : Hid (wr.rangeAt g (j * 2) [.float .f32 e.T, .float .f32 e.S]) := by
        intro i u hu
        refine cell_grown (HG.out.at ?_) HGR.out (by omega)
        obtain ⟨k1, k2⟩ := aqs_at (trA a) j e he
        unfold trCells
        match i, hu with
        | 0, hu => cases hu; simpa using k1
        | 1, hu => cases hu; simpa using k2
        | i + 2, hu => simp at hu
      have HM := Lib.hid (filter_more he)
      have j1 : (j : Int) < 4 := by omega
      obtain ⟨L, hL⟩ : ∃ L, ((trA a).take j).filter Aq.ok = L := ⟨_, rfl⟩
      have HLo : Hid (∀ x ∈ L, MisOk x s l) := fun x hx => HMI.out x (by rw [← hL] at hx; exact (List.mem_filter.1 hx).2)
      rw [hL] at HM HBb ⊢
      clear he
      go_wp2_with (first | ((with_reducible refine wpList_gateL ?_); refine wpList_load_mid rfl _ _ rfl g (j * 2) rfl [.float .f32 e.T, .float .f32 e.S] _ HQ.out Try.underlying42 rfl sizeAq ?_) | (with_reducible refine wpList_new newA ?_))
      intro C wc hC1 hC2 hC3 hC4
      have hBc := HBb.out.later hC4
      have hBlt : B < wr.heap.size := HBb.out.lt
      go_wp2_with ((with_reducible refine wpList_gateS ?_); refine wpList_put (cells := #[.float .f32 e.T, .float .f32 e.S]) hC3 sizeAq rfl (by simp [Value.oneCell']) rfl rfl ?_)
      intro wd sd bd kd
      have HBd := Lib.hid (hBc.grown kd (by omega))
      have HGd := Lib.hid (grown_trans HGR.out (show wr.grownBy wd (some B) from ⟨kd.os.trans hC4.os, kd.tape.trans hC4.tape, kd.output.trans hC4.output, by have := hC4.size; have := kd.size; omega, fun k hk hne => (kd.block k (by have := hC4.size; omega) (by simp; omega)).trans (hC4.block k hk)⟩))
      have HCd := Lib.hid bd
      have HXd := Lib.hid (below_grown HX3.out HGd.out HX3.out.size (by omega))
      clear hC3 hC4 hBc bd kd sd
      cases hok2 : e.ok
      · have HOK : Hid (okA (fb e.T) (fb e.S) = false) := hok2
        rw [hok2, if_neg (by decide)] at HM
        clear hok2
        go_wp2_with (first | ((with_reducible refine wpList_get HCd.out Try.underlying42 rfl (by kernel_rfl) ?_ ?_); rfl) | (go_at_call 73; refine (ValidAquifer_any e.T e.S _).mono ?_; rw [HOK.out]; rintro e2 w2 ⟨rfl, hb2⟩))
        go_roundw
        case rel => exact ⟨j + 1, by omega, by go_num, by rw [HM.out], by rw [HM.out], by rw [HM.out]; exact HBd.out.later hb2, grown_trans HGd.out (grown_below hb2)⟩
        case measure => simp [intOf]; omega
      · have HOK : Hid (okA (fb e.T) (fb e.S) = true) := hok2
        have HME := Lib.hid (HMI.out e hok2)
        rw [hok2, if_pos rfl] at HM
        clear hok2
        have HVd := Lib.hid (HV.out.far HXd.out)
        have HSd := Lib.hid (HS0.out.later HXd.out)
        go_wp2_with (first | ((with_reducible refine wpList_get HCd.out Try.underlying42 rfl (by kernel_rfl) ?_ ?_); rfl) | (go_at_call 73; refine (ValidAquifer_any e.T e.S _).mono ?_; rw [HOK.out]; rintro e2 w2 ⟨rfl, hb2⟩; have HC2 := Lib.hid (HCd.out.later hb2); have HV2 := Lib.hid (HVd.out.far hb2); have HS2 := Lib.hid (HSd.out.later hb2); have HB2 := Lib.hid (HBd.out.later hb2); have HG2 := Lib.hid (grown_trans HGd.out (grown_below hb2))) | ((with_reducible refine wpList_get HC2.out Try.underlying42 rfl (by kernel_rfl) ?_ ?_); rfl))
        clear hb2
        refine (misfit_any p e s v l w2 HME.out HS2.out HV2.out).mono ?_
        rintro e5 w5 ⟨q, rfl, hq, hb5⟩
        obtain rfl := is_misB HME.out hq
        have HC5 := Lib.hid (HC2.out.later hb5)
        have HB5 := Lib.hid (HB2.out.later hb5)
        have HG5 := Lib.hid (grown_trans HG2.out (grown_below hb5))
        have hne5 : C ≠ B := by omega
        clear hb5 hq
        have hm1 := misB_eq HME.out
        cases L with
        | nil =>
          obtain ⟨t1, t2⟩ := bst_one s l e
          have T1 := Lib.hid t1
          have T2 := Lib.hid t2
          have HM1 : Hid (((trA a).take (j + 1)).filter Aq.ok = [e]) := HM.out
          clear t1 t2 hm1
          go_wp2_with (first | ((with_reducible refine wpList_get HC5.out Try.underlying42 rfl (by kernel_rfl) ?_ ?_); rfl) | ((with_reducible refine wpList_gateS ?_); refine wpList_put (cells := #[.float .f32 e.T, .float .f32 e.S]) HB5.out sizeAq rfl (by simp [Value.oneCell']) rfl rfl ?_))
          intro w6 s6 b6 k6
          have HB6 := Lib.hid b6
          have HG6 := Lib.hid (grown_trans HG5.out k6)
          clear b6 k6 s6
          go_wp2_with fail
          go_roundw
          case rel => exact ⟨j + 1, by omega, by go_num, by rw [HM1.out]; rfl, by rw [HM1.out, T1.out], by rw [HM1.out, T2.out]; exact HB6.out, HG6.out⟩
          case measure => simp [intOf]; omega
        | cons x r =>
          have HLT : Hid (flt (fb (misB s l e)) (fb (lstB s l (x :: r))) = decide (misB s l e < lstB s l (x :: r))) := by
            obtain ⟨g1, g2⟩ := lst_gd HLo.out
            show _ = _
            rw [g1, fb_gd hm1.2]; exact flt_gd hm1.2 g2
          clear hm1
          by_cases hless : misB s l e < lstB s l (x :: r)
          · have f1 : flt (fb (misB s l e)) (fb (lstB s l (x :: r))) = true := by rw [HLT.out]; exact decide_eq_true hless
            obtain ⟨t1, t2⟩ := bst_less (L := x :: r) (by simp) hless
            have T1 := Lib.hid t1
            have T2 := Lib.hid t2
            clear t1 t2 hless
            go_wp2_with (first | ((with_reducible refine wpList_get HC5.out Try.underlying42 rfl (by kernel_rfl) ?_ ?_); rfl) | ((with_reducible refine wpList_gateS ?_); refine wpList_put (cells := #[.float .f32 e.T, .float .f32 e.S]) HB5.out sizeAq rfl (by simp [Value.oneCell']) rfl rfl ?_))
            intro w6 s6 b6 k6
            have HB6 := Lib.hid b6
            have HG6 := Lib.hid (grown_trans HG5.out k6)
            clear b6 k6 s6
            go_wp2_with fail
            go_roundw
            case rel => exact ⟨j + 1, by omega, by go_num, by rw [HM.out]; rfl, by rw [HM.out, T1.out], by rw [HM.out, T2.out]; exact HB6.out, HG6.out⟩
            case measure => simp [intOf]; omega
          · have f1 : flt (fb (misB s l e)) (fb (lstB s l (x :: r))) = false := by rw [HLT.out]; exact decide_eq_false hless
            obtain ⟨t1, t2⟩ := bst_keep (L := x :: r) (by simp) hless
            have T1 := Lib.hid t1
            have T2 := Lib.hid t2
            clear t1 t2 hless
            go_wp2_with fail
            go_roundw
            case rel => exact ⟨j + 1, by omega, by go_num, by rw [HM.out]; rfl, by rw [HM.out, T1.out], by rw [HM.out, T2.out]; exact HB5.out, HG5.out⟩
            case measure => simp [intOf]; omega
    · have j1 : ¬ (j : Int) < 4 := by omega
      have HT : Hid (((trA a).take j).filter Aq.ok = trL a) := by show _ = (trA a).filter Aq.ok; rw [List.take_of_length_le (show (trA a).length ≤ j by show 4 ≤ j; omega)]
      rw [HT.out] at HBb ⊢
      have HR9 := Lib.hid (HR3.out.grown HGR.out (by omega))
      have hRB : R < B := by omega
      obtain ⟨L, hL⟩ : ∃ L, trL a = L := ⟨_, rfl⟩
      have HLo : Hid (∀ x ∈ L, MisOk x s l) := fun x hx => HMI.out x (by rw [← hL] at hx; exact trL_ok hx)
      have HLe := Lib.hid hL
      rw [hL] at HBb ⊢
      clear hL
      cases L with
      | nil =>
        go_wp2_with (first | ((with_reducible refine wpList_get HBb.out Try.underlying42 rfl (by kernel_rfl) ?_ ?_); rfl) | ((with_reducible refine wpList_gateS ?_); refine wpList_put (cells := #[.float .f32 (bstA s l []).T, .float .f32 (bstA s l []).S]) HR9.out sizeAq rfl (by simp [Value.oneCell']) rfl rfl ?_))
        intro w9 s9 b9 k9
        go_wp2_with fail
        exact ret_cell3 rfl rfl (run_loadVar_row w9 R _ _ _ _ _ b9 Try.underlying42 rfl (by kernel_rfl)) rfl ⟨by rw [HLe.out]; rfl, below_grown HXr.out k9 HXr.out.size (by omega)⟩
      | cons x r =>
        obtain ⟨g1, g2⟩ := lst_gd HLo.out
        have HLT : Hid (flt (fb (lstB s l (x :: r))) (fb m) = decide (lstB s l (x :: r) < m)) := by
          show _ = _
          rw [g1, HMB.out.1]; exact flt_gd g2 HMB.out.2
        clear g1 g2
        go_wp2_with (first | ((with_reducible refine wpList_get HBb.out Try.underlying42 rfl (by kernel_rfl) ?_ ?_); rfl) | ((with_reducible refine wpList_gateS ?_); refine wpList_put (cells := #[.float .f32 (bstA s l (x :: r)).T, .float .f32 (bstA s l (x :: r)).S]) HR9.out sizeAq rfl (by simp [Value.oneCell']) rfl rfl ?_))
        intro w9 s9 b9 k9
        go_wp2_with fail
        refine ret_cell3 rfl rfl (run_loadVar_row w9 R _ _ _ _ _ b9 Try.underlying42 rfl (by kernel_rfl)) rfl ⟨?_, below_grown HXr.out k9 HXr.out.size (by omega)⟩
        have e1 : (!(x :: r).isEmpty && decide (lstB s l (x :: r) < m)) = flt (fb (lstB s l (x :: r))) (fb m) := by rw [HLT.out]; rfl
        rw [HLe.out, e1]; rfl
end Go.Proofs.Ytonmdkhfongmhaa
