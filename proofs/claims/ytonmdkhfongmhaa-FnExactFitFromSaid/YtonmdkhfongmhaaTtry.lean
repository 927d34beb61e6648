/- The aquifers that are tried beside another one: both sides. -/
import Derived.Test.YtonmdkhfongmhaaTbest
namespace Go.Proofs.Ytonmdkhfongmhaa
open Go.RowKit

/-- The bits of a product with a constant. -/
def mulB (T c : Nat) : Nat := (fmul (fb T) (fb c)).getD 0
/-- The four aquifers beside one. -/
def trA (a : Aq) : List Aq := [⟨mulB a.T 1067450368, a.S⟩, ⟨mulB a.T 1061997773, a.S⟩, ⟨a.T, mulB a.S 1067450368⟩, ⟨a.T, mulB a.S 1061997773⟩]
def trL (a : Aq) : List Aq := (trA a).filter Aq.ok
theorem leR : Le (fb 1067450368) 0 := le_c 1067450368 0 (by decide +kernel)
theorem leD : Le (fb 1061997773) 0 := le_c 1061997773 0 (by decide +kernel)
theorem mulB_of {T c q : Nat} {i : Int} (hT : Le (fb T) i) (hc : Le (fb c) 0) (hi : i ≤ 30) (hq : Is q (fmul (fb T) (fb c))) : q = mulB T c ∧ q < 2 ^ 32 := by
  obtain ⟨b, _, _, _, h1, _⟩ := mul_to (k := 64) hT hc (by omega) (by omega) (by omega)
  have h2 : fb q = some b := hq.out.trans h1
  obtain rfl := fb_lt h2
  refine ⟨by unfold mulB; rw [h1]; rfl, ?_⟩
  exact fmul_fits _ _ q h1
theorem mulB_lt {T c : Nat} {i : Int} (hT : Le (fb T) i) (hc : Le (fb c) 0) (hi : i ≤ 30) : mulB T c < 2 ^ 32 := by
  obtain ⟨b, _, _, _, h1, _⟩ := mul_to (k := 64) hT hc (by omega) (by omega) (by omega)
  unfold mulB
  rw [h1]
  exact fmul_fits _ _ b h1
theorem ok_les {a : Aq} (h : a.ok = true) : Le (fb a.T) 20 ∧ Le (fb a.S) 0 := ⟨(okA_parts h).1.2, (okA_parts h).2⟩
theorem trA_rng {a : Aq} (h : a.ok = true) (hr : a.Rng) : ∀ e ∈ trA a, e.Rng := by
  obtain ⟨h1, h2⟩ := ok_les h
  intro e he
  unfold trA at he
  simp only [List.mem_cons, List.not_mem_nil, or_false] at he
  rcases he with rfl | rfl | rfl | rfl
  · exact ⟨mulB_lt h1 leR (by omega), hr.2⟩
  · exact ⟨mulB_lt h1 leD (by omega), hr.2⟩
  · exact ⟨hr.1, mulB_lt h2 leR (by omega)⟩
  · exact ⟨hr.1, mulB_lt h2 leD (by omega)⟩
theorem trL_ok {a e : Aq} (he : e ∈ trL a) : e.ok = true := (List.mem_filter.1 he).2
theorem trL_rng {a : Aq} (h : a.ok = true) (hr : a.Rng) : ∀ e ∈ trL a, e.Rng := fun e he => trA_rng h hr e (List.mem_filter.1 he).1
theorem trL_len (a : Aq) : (trL a).length ≤ 4 := List.length_filter_le _ _
def aqs (l : List Aq) : List Value := l.flatMap fun e => [.float .f32 e.T, .float .f32 e.S]
theorem aqs_snoc (l : List Aq) (e : Aq) : aqs (l ++ [e]) = aqs l ++ e.cells := by unfold aqs; rw [List.flatMap_append]; rfl
theorem aqs_len (l : List Aq) : (aqs l).length = l.length * 2 := by
  induction l with
  | nil => rfl
  | cons e r ih => unfold aqs at *; rw [List.flatMap_cons, List.length_append, ih, List.length_cons]; simp; omega
theorem aqs_at : ∀ (l : List Aq) (j : Nat) (e : Aq), l[j]? = some e → (aqs l)[j * 2]? = some (.float .f32 e.T) ∧ (aqs l)[j * 2 + 1]? = some (.float .f32 e.S)
  | [], j, e, h => by simp at h
  | x :: r, 0, e, h => by simp at h; subst h; exact ⟨rfl, rfl⟩
  | x :: r, j + 1, e, h => by
    have := aqs_at r j e (by simpa using h)
    have e1 : aqs (x :: r) = [.float .f32 x.T, .float .f32 x.S] ++ aqs r := rfl
    rw [e1, show (j + 1) * 2 = 2 + j * 2 by omega, show 2 + j * 2 + 1 = 2 + (j * 2 + 1) by omega]
    rw [List.getElem?_append_right (by simp), List.getElem?_append_right (by simp)]
    simpa using this
theorem aat_owned {w : World} {base : Nat} {v : Value} {l : List Aq} (h : w.ownsRow base 42 2 v l.length (aqs l)) (hr : ∀ e ∈ l, e.Rng) : AAt w v l := by
  have h' := h
  obtain ⟨h1, h2 | ⟨g, cap, cur, rfl, hb, hg, hn, hm, hs, hx⟩⟩ := h
  · obtain ⟨rfl, h0⟩ := h2
    refine ⟨none, 0, by rw [h0], fun j e he => ?_⟩
    have := (List.getElem?_eq_some_iff.1 he).1
    omega
  · refine ⟨_, cap, rfl, fun j e he => ⟨hr e (List.mem_of_getElem? he), g, rfl, fun i u hu => ?_⟩⟩
    have hj : j < l.length := (List.getElem?_eq_some_iff.1 he).1
    obtain ⟨k1, k2⟩ := aqs_at l j e he
    have hlen := aqs_len l
    match i, hu with
    | 0, hu =>
      cases hu
      rw [World.ownsRow.cellAt h' (j * 2 + 0) (by omega)]
      exact k1
    | 1, hu =>
      cases hu
      rw [World.ownsRow.cellAt h' (j * 2 + 1) (by omega)]
      exact k2
    | i + 2, hu => simp [Aq.cells] at hu
/-- The four, as they lie behind each other. -/
def trCells (a : Aq) : Array Value := (aqs (trA a)).toArray
def TrRel (a : Aq) (w : World) (v4 v5 : Value) (wr : World) : Prop :=
  ∃ j : Nat, j ≤ 4 ∧ v5 = .int .i64 j ∧ wr.ownsRow w.heap.size 42 2 v4 (((trA a).take j).filter Aq.ok).length (aqs (((trA a).take j).filter Aq.ok)) ∧ Below w.heap.size w wr
theorem filter_more {a : Aq} {j : Nat} {e : Aq} (he : (trA a)[j]? = some e) : ((trA a).take (j + 1)).filter Aq.ok = if e.ok = true then ((trA a).take j).filter Aq.ok ++ [e] else ((trA a).take j).filter Aq.ok := by
  rw [take_more' he, List.filter_append]
  cases h : e.ok
  · rw [if_neg (by decide)]; simp [h]
  · rw [if_pos rfl]; simp [h]

set_option maxRecDepth 100000 in
set_option maxHeartbeats 3200000 in
theorem l04Tries_any (a : Aq) (w : World) (hok : a.ok = true) :
    Calls Try.prog 78 #[.agg #[.float .f32 a.T, .float .f32 a.S]] w fun e w' => ∃ u, e = .returned u ∧ w'.ownsRow w.heap.size 42 2 u (trL a).length (aqs (trL a)) ∧ Below w.heap.size w w' := by
  obtain ⟨i0, hi, hz0, hz1, hz2⟩ := info_parts infoAq
  obtain ⟨h1, h2⟩ := ok_les hok
  have hlt := order_lt
  go_enter Try.func78, Try.ntmps78
  go_wp2_with (with_reducible refine wpList_box rfl ?_)
  intro bA wA hA1 hA2 hA3 hA4
  have hT := hA3.at (i := 0) rfl
  have hS := hA3.at (i := 1) rfl
  have HBA := Lib.hid hA4
  clear hA3 hA4
  go_wp2_with (first | ((with_reducible refine wpList_gate ?_); refine wpList_arith _ _ rfl rfl rfl ?_; intro r n hr))
  rename_i r1 n1 hr1 r2 n2 hr2 r3 n3 hr3 K ha
  obtain ⟨rfl, _⟩ := mulB_of h1 leR (by omega) hr1
  obtain ⟨rfl, _⟩ := mulB_of h1 leD (by omega) hr2
  obtain ⟨rfl, _⟩ := mulB_of h2 leR (by omega) hr3
  obtain ⟨rfl, _⟩ := mulB_of h2 leD (by omega) hr
  obtain ⟨w3, hw3⟩ : ∃ w3, (wA.drewN (n1 + n2 + n3 + n)).alloc (.cells #[.float .f32 (mulB a.T 1067450368), .float .f32 a.S, .float .f32 (mulB a.T 1061997773), .float .f32 a.S, .float .f32 a.T, .float .f32 (mulB a.S 1067450368), .float .f32 a.T, .float .f32 (mulB a.S 1061997773)] 42) = w3 := ⟨_, rfl⟩
  have hgb : Blk w3 wA.heap.size (trCells a) 42 := by rw [← hw3]; exact Blk.new' _ _ _ rfl
  have HX3 : Hid (Below w.heap.size w w3) := by
    show Below _ _ _
    rw [← hw3]
    exact (below_drawn HBA.out _).alloc HBA.out.size _
  obtain ⟨g, hg⟩ : ∃ g, wA.heap.size = g := ⟨_, rfl⟩
  have hg1 : wA.heap.size + 1 = w3.heap.size := by rw [← hw3]; simp
  rw [hg] at hgb
  have HG := Lib.hid hgb
  rw [hw3, hg1, hg]
  clear hw3 hgb hT hS hr1 hr2 hr3 hr
  go_loopw [4, 5] (fun v4 v5 wr => TrRel a w3 v4 v5 wr) (fun _ v5 _ => 4 - (intOf v5).toNat)
  case atStart => exact ⟨0, by omega, rfl, World.ownsRow_lit w3 #[] 0 (Nat.le_refl _) (by simp [maxLen]) rfl, (Below.refl _ _).alloc (Nat.le_refl _) _⟩
  case round =>
    obtain ⟨j, hj, rfl, hown, hB⟩ := hrel
    have HO := Lib.hid hown
    have HX := Lib.hid hB
    clear hown hB
    by_cases hlt4 : j < 4
    · obtain ⟨e, he⟩ : ∃ e, (trA a)[j]? = some e := ⟨_, List.getElem?_eq_getElem (show j < (trA a).length from hlt4)⟩
      have HQ : Hid (wr.rangeAt g (j * 2) [.float .f32 e.T, .float .f32 e.S]) := by
        intro i u hu
        refine cell_below HX.out (HG.out.at ?_)
        obtain ⟨k1, k2⟩ := aqs_at (trA a) j e he
        unfold trCells
        match i, hu with
        | 0, hu => cases hu; simpa using k1
        | 1, hu => cases hu; simpa using k2
        | i + 2, hu => simp at hu
      have HM := Lib.hid (filter_more he)
      have j1 : (j : Int) < 4 := by omega
      have hbs := HX.out.size
      have hl4 : (((trA a).take j).filter Aq.ok).length ≤ 4 := Nat.le_trans (List.length_filter_le _ _) (by rw [List.length_take]; omega)
      clear he
      cases hok : e.ok
      · have HOK : Hid (okA (fb e.T) (fb e.S) = false) := hok
        rw [hok, if_neg (by decide)] at HM
        clear hok
        go_wp2_with (first | ((with_reducible refine wpList_gateL ?_); refine wpList_load_mid rfl _ _ rfl g (j * 2) rfl [.float .f32 e.T, .float .f32 e.S] _ HQ.out Try.underlying42 rfl sizeAq ?_) | (go_at_call 68; refine (l03Aquifer_any e.T e.S _).mono ?_; rw [HOK.out]; rintro e2 w2 ⟨rfl, hb2⟩))
        go_roundw
        case rel => exact ⟨j + 1, by omega, by go_num, by rw [HM.out]; exact owns_belowN HO.out hb2, below_next HX.out hb2⟩
        case measure => simp [intOf]; omega
      · have HOK : Hid (okA (fb e.T) (fb e.S) = true) := hok
        rw [hok, if_pos rfl] at HM
        clear hok
        go_wp2_with (first | ((with_reducible refine wpList_gateL ?_); refine wpList_load_mid rfl _ _ rfl g (j * 2) rfl [.float .f32 e.T, .float .f32 e.S] _ HQ.out Try.underlying42 rfl sizeAq ?_) | (go_at_call 68; refine (l03Aquifer_any e.T e.S _).mono ?_; rw [HOK.out]; rintro e2 w2 ⟨rfl, hb2⟩; have HQ2 := Lib.hid (range_below HQ.out hb2); have HO2 := Lib.hid (owns_belowN HO.out hb2); have HX2 := Lib.hid (below_next HX.out hb2); have hbs2 := HX2.out.size) | ((with_reducible refine wpList_gateL ?_); refine wpList_load_mid rfl _ _ rfl g (j * 2) rfl [.float .f32 e.T, .float .f32 e.S] _ HQ2.out Try.underlying42 rfl sizeAq ?_) | (at_builtin; refine wpList_append_own _ rfl _ _ 65 rfl w3.heap.size 42 i0 (.agg #[.float .f32 0, .float .f32 0]) 2 8 Try.underlying65 hi hz0 hz1 hz2 rfl (by decide) _ _ _ rfl (HO2.out.alloc _) ⟨w2.heap.size, 0, none⟩ 1 1 [.float .f32 e.T, .float .f32 e.S] rfl rfl (cells_new w2 #[.float .f32 e.T, .float .f32 e.S] 42) (by simp [Value.oneCell']) (by unfold maxLen; omega) (by omega) (by simp; omega) ?_))
        intro v' w7 hown7 hgrow _
        have HO7 := Lib.hid hown7
        have HX7 : Hid (Below w3.heap.size w3 w7) := (HX2.out.alloc (by omega) _).grown hgrow (by simp; omega) (fun q hq => (HO2.out.lt q hq).1)
        clear hown7 hgrow
        go_wp2_with fail
        go_roundw
        case rel =>
          refine ⟨j + 1, by omega, by go_num, ?_, HX7.out⟩
          rw [HM.out, List.length_append, aqs_snoc]
          exact HO7.out
        case measure => simp [intOf]; omega
    · have j1 : ¬ (j : Int) < 4 := by omega
      have HT : Hid (((trA a).take j).filter Aq.ok = trL a) := by show _ = (trA a).filter Aq.ok; rw [List.take_of_length_le (show (trA a).length ≤ j by show 4 ≤ j; omega)]
      rw [HT.out] at HO
      go_wp2_with fail
      go_ret
      exact ⟨_, rfl, owns_monoN HO.out HX3.out.size, below_next HX3.out HX.out⟩
end Go.Proofs.Ytonmdkhfongmhaa
