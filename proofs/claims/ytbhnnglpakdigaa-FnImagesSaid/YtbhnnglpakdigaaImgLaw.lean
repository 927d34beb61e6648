/- The law on images: what the numbers are, and its walk. -/
import Derived.Test.YtbhnnglpakdigaaImgs
import Derived.Test.YtbhnnglpakdigaaWfin
import Derived.Test.YtbhnnglpakdigaaReach
namespace Go.Proofs.Ytbhnnglpakdigaa
open Go.RowKit

theorem fdiv_fits (x y : F) : Fits (fdiv x y) := by
  intro b h
  cases x with
  | none => cases h
  | some p => cases y with
    | none => cases h
    | some q =>
      have h' : ((Ieee.single.read p).quotient (Ieee.single.fractionBits + 2) (Ieee.single.read q)).map Ieee.single.write = some b := h
      cases hd : (Ieee.single.read p).quotient (Ieee.single.fractionBits + 2) (Ieee.single.read q) with
      | none => rw [hd] at h'; cases h'
      | some d => rw [hd] at h'; cases h'; exact write_fits d (quotient_num' hd)
theorem Opp.le {x y : F} {k : Int} (h : Opp x y) (hx : Le x k) : Le y k := by
  obtain ⟨a, s, m, e, rfl, hr, he, hm⟩ := hx
  obtain ⟨b, rfl, hb⟩ := h a rfl
  rw [hr] at hb
  exact ⟨b, !s, m, e, rfl, hb, he, hm⟩
theorem neg_neg (r : Nat) : Op.negFloat .f32 (Op.negFloat .f32 r) = r := by
  show (r ^^^ 2 ^ 31) ^^^ 2 ^ 31 = r
  rw [Nat.xor_assoc, Nat.xor_self, Nat.xor_zero]
/-- A drawn well's rate: its number, and its opposite. -/
structure RateW (r : Nat) : Prop where
  pl : plain (fb r) = true
  opp : Opp (fb r) (fb (Op.negFloat .f32 r))
  pl2 : plain (fb (Op.negFloat .f32 r)) = true
theorem RateW.of {r z : Nat} (hz : z < 6401) (h : fb r = numF z) : RateW r := by
  have hl := numF_le hz
  rw [← h] at hl
  have hl' := hl
  obtain ⟨b, s, m, e, h1, h2, _⟩ := hl
  obtain ⟨rfl, _⟩ := fb_some h1
  have hf : r < 4294967296 := by
    have : Fits (numF z) := fdiv_fits _ _
    exact this r (by rw [← h]; exact h1)
  obtain ⟨ho, _⟩ := opp_neg hf h1
  exact ⟨le_plain (hl'.mono (by omega)), ho, le_plain ((ho.le hl').mono (by omega))⟩
theorem place_lit {n : Int} (h1 : -100 ≤ n) (h2 : n ≤ 100) : placeB n = true := by
  unfold placeB
  rw [decide_eq_true h1, decide_eq_true h2]; rfl
theorem wellB_lit {x y : Int} {r : Nat} (hx : -100 ≤ x ∧ x ≤ 100) (hy : -100 ≤ y ∧ y ≤ 100) (h : plain (fb r) = true) : wellB x y (fb r) = true := by
  unfold wellB
  rw [place_lit hx.1 hx.2, place_lit hy.1 hy.2, h]; rfl
theorem momB_lit {n : Int} (h1 : 1 ≤ n) (h2 : n ≤ 100000) : momB n = true := by
  unfold momB
  rw [decide_eq_true h1, decide_eq_true h2]; rfl
theorem sumR_two {T S : Nat} {a b : We} {x y t : Int} (hA : okA (fb T) (fb S) = true) (ha : a.ok = true) (hb : b.ok = true) (hx : -100 ≤ x ∧ x ≤ 100) (hy : -100 ≤ y ∧ y ≤ 100) (ht : 1 ≤ t ∧ t ≤ 100000) :
    sumR T S [a, b] x y t = (fadd (downW T S x y t a) (downW T S x y t b), 0) := by
  have : askW (okA (fb T) (fb S)) [a, b] x y [t] = 0 := by
    unfold askW
    simp [hA, ha, hb, place_lit hx.1 hx.2, place_lit hy.1 hy.2, momB_lit ht.1 ht.2]
  unfold sumR
  rw [if_pos this]; rfl
theorem SameW.nil : SameW [] [] := ⟨rfl, fun j e e' h => by simp at h⟩
theorem SameW.cons {a b : We} {l l' : List We} (h1 : a.x = b.x) (h2 : a.y = b.y) (h3 : fb a.r = fb b.r) (h : SameW l l') : SameW (a :: l) (b :: l') := ⟨by simp [h.1], fun j e e' he he' => by
  cases j with
  | zero => simp at he he'; subst he; subst he'; exact ⟨h1, h2, h3⟩
  | succ j => exact h.2 j e e' (by simpa using he) (by simpa using he')⟩
theorem downF_neg (T S R : F) (dx dy t : Int) : downF T S R (-dx) dy t = downF T S R dx dy t := by
  have h1 : distF (-dx) dy = distF dx dy := by unfold distF; rw [Int.neg_mul_neg]
  have h2 : rawF T S (-dx) dy t = rawF T S dx dy t := by unfold rawF; rw [h1]
  have h3 : argF T S (-dx) dy t = argF T S dx dy t := by unfold argF; rw [h2]
  unfold downF
  rw [h3]
theorem wat_blk {w : World} {b : Nat} {l : List We} {t : TypeId} {cap : Nat} {cs : Array Value} (h : Blk w b cs t) (hc : cs.toList = flatW l) (hr : ∀ e ∈ l, e.Rng) : WAt w (.slice (some ⟨b, 0, none⟩) l.length cap) l := by
  refine ⟨_, _, rfl, fun j e he => ⟨hr e (List.mem_of_getElem? he), b, rfl, fun i u hu => ?_⟩⟩
  have := flatW_at l j e he i u hu
  rw [← hc] at this
  exact h.at (by simpa using this)
theorem wpList_getgd {P : Program} {ops : Array Oper} {Q : Exit → Act → World → Prop} {rest : List Oper} {a : Act} {w : World} {dst : Option Tmp} {T ty : TypeId} {X : Operand} {pos : String} {after : Array Edge} {gd : Option (Nat × Bool)}
    {g : Nat} {cells : Array Value} {t : TypeId} {d : TypeDesc} (hgd : Region.wanted ⟨dst, .load T X, ty, pos, after, gd⟩ (yielded ops a.tmps) = true) (hg : Blk w g cells t) (hu : P.underlying T = some d) (hd : (match d with | .struct _ | .array _ _ => true | _ => false) = true) (hi : (P.info? T).map (·.size) = some cells.size)
    (hx : a.eval X = .pointer (some ⟨g, 0, none⟩)) (h : wpList P ops Q rest (a.put dst (.agg cells)) w) : wpList P ops Q (⟨dst, .load T X, ty, pos, after, gd⟩ :: rest) a w := by
  refine wpList_step fun K hK => ?_
  rw [if_pos hgd]
  unfold Oper.wp
  have hl := run_loadVar_row w g _ _ _ _ _ hg hu hd hi
  have : (execOp a.eval ⟨dst, .load T X, ty, pos, after, gd⟩).run P w = .ok (.value (.agg cells)) w := by
    simp only [execOp, hx, Instr.loadAt, Instr.sureAddr]
    simp [hl]
  rw [this]
  exact hK _ _ h

set_option maxRecDepth 100000 in
set_option maxHeartbeats 12800000 in
theorem law_Images (v1 v2 : Value) (n1 n2 : Nat) (w : World) (h1 : n1 < 9223372036854775808) (h2 : n2 < 9223372036854775808) (hv1 : BytesAt w v1 n1) (hv2 : BytesAt w v2 n2) :
    Calls Try.prog 6 #[v1, v2] w (RetB true w) := by
  have heq' := order_eq
  have HV1 := Lib.hid hv1
  have HV2 := Lib.hid hv2
  clear hv1 hv2
  by_cases hn1 : (4096 : Int) < n1
  · have N1 := Lib.hid hn1
    clear hn1
    go_enter Try.func6, Try.ntmps6
    go_wp2_with (go_at_call 21; refine (f6big_any v1 n1 _ h1 HV1.out).mono ?_; rw [decide_eq_true N1.out]; rintro e w' ⟨rfl, rfl⟩)
    go_ret
    exact ⟨rfl, Below.refl _ _⟩
  have N1 := Lib.hid hn1
  have N1' : Hid (n1 ≤ 4096) := by show _ ≤ _; omega
  clear hn1
  by_cases hn2 : (4096 : Int) < n2
  · have N2 := Lib.hid hn2
    clear hn2
    go_enter Try.func6, Try.ntmps6
    go_wp2_with (go_at_call 21; first | (refine (f6big_any v1 n1 _ h1 HV1.out).mono ?_; rw [decide_eq_false N1.out]; rintro e w' ⟨rfl, rfl⟩) | (refine (f6big_any v2 n2 _ h2 HV2.out).mono ?_; rw [decide_eq_true N2.out]; rintro e w' ⟨rfl, rfl⟩))
    go_ret
    exact ⟨rfl, Below.refl _ _⟩
  have N2 := Lib.hid hn2
  have N2' : Hid (n2 ≤ 4096) := by show _ ≤ _; omega
  clear hn2
  go_enter Try.func6, Try.ntmps6
  go_wp2_with fail
  refine (f6big_any v1 n1 _ h1 HV1.out).mono ?_
  rw [decide_eq_false (show ¬ (4096 : Int) < n1 by have := N1'.out; omega)]
  rintro e w' ⟨rfl, rfl⟩
  go_wp2_with fail
  refine (f6big_any v2 n2 _ h2 HV2.out).mono ?_
  rw [decide_eq_false (show ¬ (4096 : Int) < n2 by have := N2'.out; omega)]
  rintro e w' ⟨rfl, rfl⟩
  go_wp2_with fail
  refine (P6Aquifer_any v1 n1 w N1'.out HV1.out).mono ?_
  rintro en w1 ⟨T, S, rfl, hok, hb1⟩
  have HOK := Lib.hid hok
  have HB1 := Lib.hid hb1
  clear hok hb1
  go_wp2_with (with_reducible refine wpList_new newA ?_)
  intro Ab w2 hA1 hA2 hA3 hA4
  have HB2 := Lib.hid (below_next HB1.out hA4)
  have hwA : w.heap.size ≤ Ab := by have := HB1.out.size; omega
  clear hA4
  go_wp2_with ((with_reducible refine wpList_gateS ?_); refine wpList_put (cells := #[.float .f32 T, .float .f32 S]) hA3 sizeAq rfl (by simp [Value.oneCell']) rfl rfl ?_)
  intro w3 s3 b3 k3
  have HA := Lib.hid b3
  have HB := Lib.hid (below_grown HB2.out k3 HB2.out.size hwA)
  clear hA3 k3 s3 b3
  go_wp2_with fail
  refine (P6Wells_any v2 n2 w3 N2'.out (HV2.out.far HB.out)).mono ?_
  rintro en w4 ⟨u, l, rfl, hl4, hall, hown, hst⟩
  have HA := Lib.hid (HA.out.later hst)
  have HB := Lib.hid (below_next HB.out hst)
  clear hst
  cases l with
  | nil =>
    have hu : ∃ a cap, u = .slice a 0 cap := by
      rcases hown.2 with ⟨rfl, _⟩ | ⟨g, cap, _, rfl, _⟩
      · exact ⟨none, 0, rfl⟩
      · exact ⟨_, cap, rfl⟩
    obtain ⟨a, cap, rfl⟩ := hu
    clear hown hall
    go_wp2_with fail
    go_ret
    exact ⟨rfl, HB.out⟩
  | cons e r =>
  have hw4 := wat_owned hown (fun x hx => (hall x hx).rng)
  obtain ⟨g, cap, hu, hcap⟩ : ∃ g cap, u = .slice (some ⟨g, 0, none⟩) (r.length + 1) cap ∧ r.length + 1 ≤ cap := by
    rcases hown.2 with ⟨_, h0⟩ | ⟨g, cap, _, rfl, _, _, hn, _⟩
    · simp at h0
    · exact ⟨g, cap, rfl, hn⟩
  subst hu
  have hgood := hall e (by simp)
  obtain ⟨⟨x0, x1⟩, ⟨y0, y1⟩, z0, hz0, hr0⟩ := hgood
  have HRW := Lib.hid (RateW.of hz0 hr0)
  have HQ : Hid (w4.rangeAt g 0 e.cells) := by
    obtain ⟨a', cap', e1, hL⟩ := hw4
    cases e1
    obtain ⟨_, g', e2, h3⟩ := hL 0 e rfl
    cases e2
    have h4 : w4.rangeAt g 0 e.cells := by simpa using h3
    exact h4
  have hr4 : r.length ≤ 3 := by simpa using hl4
  have hln : ¬ ((r.length + 1 : Nat) : Int) = 0 := by omega
  have hln2 : ¬ (r.length : Int) + 1 = 0 := by omega
  have hcap1 : 1 ≤ cap := by omega
  have hcap2 : (1 : Int) ≤ (cap : Int) := by omega
  clear hown hall hw4 hl4 hz0 hr0

  go_wp2_with (first | ((with_reducible refine wpList_gateL ?_); refine wpList_load_mid rfl _ _ rfl g 0 rfl e.cells _ HQ.out Try.underlying32 rfl sizeWell ?_) | (with_reducible refine wpList_new newWell ?_))
  intro W w5 hN1 hN2 hN3 hN4
  go_wp2_with ((with_reducible refine wpList_gateS ?_); refine wpList_put (cells := #[.int .i8 e.x, .int .i8 e.y, .float .f32 e.r]) hN3 sizeWell rfl (by simp [Value.oneCell']) rfl rfl ?_)
  intro w6 sN bN kN
  have hst := below_grown hN4 kN hN4.size hN1
  have HW' := Lib.hid bN
  clear hN3 sN bN kN hN4 hN1 hN2
  have HA := Lib.hid (HA.out.later hst)
  have HB := Lib.hid (below_next HB.out hst)
  have HQ : Hid (w6.rangeAt g 0 e.cells) := range_below HQ.out hst
  clear hst
  have HW := HW'
  go_wp2_with fail
  refine (P6Pick_any v1 n1 20 w6 N1'.out (by omega) (by omega) (HV1.out.far HB.out)).mono ?_
  rintro en w7 ⟨za, rfl, hza, hst⟩
  have hza1 : (za : Int) < 20 := by omega
  have HA := Lib.hid (HA.out.later hst)
  have HW := Lib.hid (HW.out.later hst)
  have HB := Lib.hid (below_next HB.out hst)
  have HQ : Hid (w7.rangeAt g 0 e.cells) := range_below HQ.out hst
  clear hst
  go_wp2_with fail
  refine (P6Pick_any v2 n2 12 w7 N2'.out (by omega) (by omega) (HV2.out.far HB.out)).mono ?_
  rintro en w8 ⟨zy, rfl, hzy, hst⟩
  have hzy1 : (zy : Int) < 12 := by omega
  have HA := Lib.hid (HA.out.later hst)
  have HW := Lib.hid (HW.out.later hst)
  have HB := Lib.hid (below_next HB.out hst)
  have HQ : Hid (w8.rangeAt g 0 e.cells) := range_below HQ.out hst
  clear hst
  go_wp2_with fail
  refine (P6Pick_any v1 n1 60 w8 N1'.out (by omega) (by omega) (HV1.out.far HB.out)).mono ?_
  rintro en w9 ⟨zt, rfl, hzt, hst⟩
  have hzt1 : (zt : Int) < 60 := by omega
  have HA := Lib.hid (HA.out.later hst)
  have HW := Lib.hid (HW.out.later hst)
  have HB := Lib.hid (below_next HB.out hst)
  have HQ : Hid (w9.rangeAt g 0 e.cells) := range_below HQ.out hst
  clear hst
  obtain ⟨t, ht⟩ : ∃ t : Int, 2 * ((za : Int) - 5) = t := ⟨_, rfl⟩
  have t0 : -10 ≤ t := by omega
  have t1 : t ≤ 28 := by omega
  obtain ⟨I, hI⟩ : ∃ I, imgW e t true = I := ⟨_, rfl⟩
  have IE : Hid (imgW ⟨e.x, e.y, e.r⟩ t true = I) := hI
  obtain ⟨J, hJ⟩ : ∃ J, imgW e t false = J := ⟨_, rfl⟩
  have JE : Hid (imgW ⟨e.x, e.y, e.r⟩ t false = J) := hJ
  obtain ⟨K, hK⟩ : ∃ K, imgW I t true = K := ⟨_, rfl⟩
  have KE : Hid (imgW ⟨I.x, I.y, I.r⟩ t true = K) := hK
  have Ix : I.x = t - e.x := by rw [← hI]; rfl
  have Iy : I.y = e.y := by rw [← hI]; rfl
  have Jx : J.x = t - e.x := by rw [← hJ]; rfl
  have Jy : J.y = e.y := by rw [← hJ]; rfl
  have Kx : K.x = e.x := by rw [← hK]; show t - I.x = _; omega
  have Ky : K.y = e.y := by rw [← hK]; exact Iy
  have IR : Hid (I.r = Op.negFloat .f32 e.r) := by rw [← hI]; rfl
  have JR : Hid (J.r = e.r) := by rw [← hJ]; rfl
  have KR : Hid (K.r = e.r) := by rw [← hK]; show Op.negFloat .f32 I.r = _; rw [IR.out]; exact neg_neg _
  have EOK : Hid (e.ok = true) := wellB_lit (by omega) (by omega) HRW.out.pl
  have IOK : Hid (I.ok = true) := wellB_lit (by omega) (by omega) (by rw [IR.out]; exact HRW.out.pl2)
  have JOK : Hid (J.ok = true) := wellB_lit (by omega) (by omega) (by rw [JR.out]; exact HRW.out.pl)
  have IX := Lib.hid Ix
  have IY := Lib.hid Iy
  have JX := Lib.hid Jx
  have JY := Lib.hid Jy
  have KX := Lib.hid Kx
  have KY := Lib.hid Ky
  have EX : Hid (-128 ≤ e.x ∧ e.x ≤ 127) := by show _ ∧ _; omega
  have EY : Hid (-128 ≤ e.y ∧ e.y ≤ 127) := by show _ ∧ _; omega
  have IXR : Hid (-128 ≤ I.x ∧ I.x ≤ 127) := by show _ ∧ _; omega
  have IYR : Hid (-128 ≤ I.y ∧ I.y ≤ 127) := by show _ ∧ _; omega
  have JXR : Hid (-128 ≤ J.x ∧ J.x ≤ 127) := by show _ ∧ _; omega
  have JYR : Hid (-128 ≤ J.y ∧ J.y ≤ 127) := by show _ ∧ _; omega
  have KXR : Hid (-128 ≤ K.x ∧ K.x ≤ 127) := by show _ ∧ _; omega
  have KYR : Hid (-128 ≤ K.y ∧ K.y ≤ 127) := by show _ ∧ _; omega
  have TR : Hid (-400 ≤ t ∧ t ≤ 400) := by show _ ∧ _; omega
  have PE : Hid (placeB (t - e.x) = true) := place_lit (by omega) (by omega)
  have PI : Hid (placeB (t - I.x) = true) := place_lit (by omega) (by omega)
  have HT := Lib.hid ht
  have ht2 : 2 * ((za : Int) - 5) = t := ht
  clear hI hJ hK Ix Iy Jx Jy Kx Ky ht

  go_wp2_with ((with_reducible refine wpList_get HW.out Try.underlying32 rfl (by kernel_rfl) ?_ ?_); rfl)
  refine (ImageOf_ok e.x e.y e.r t true w9 EX.out EY.out EOK.out TR.out PE.out).mono ?_
  rw [IE.out]
  rintro en w10 ⟨rfl, hst⟩
  have HA := Lib.hid (HA.out.later hst)
  have HW := Lib.hid (HW.out.later hst)
  have HB := Lib.hid (below_next HB.out hst)
  have HQ : Hid (w10.rangeAt g 0 e.cells) := range_below HQ.out hst
  clear hst
  go_wp2_with (first | (with_reducible refine wpList_new newWell ?_))
  intro R w11 hN1 hN2 hN3 hN4
  go_wp2_with ((with_reducible refine wpList_gateS ?_); refine wpList_put (cells := #[.int .i8 I.x, .int .i8 I.y, .float .f32 I.r]) hN3 sizeWell rfl (by simp [Value.oneCell']) rfl rfl ?_)
  intro w12 sN bN kN
  have hst := below_grown hN4 kN hN4.size hN1
  have HR' := Lib.hid bN
  clear hN3 sN bN kN hN4 hN1 hN2
  have HA := Lib.hid (HA.out.later hst)
  have HW := Lib.hid (HW.out.later hst)
  have HB := Lib.hid (below_next HB.out hst)
  have HQ : Hid (w12.rangeAt g 0 e.cells) := range_below HQ.out hst
  clear hst
  have HR := HR'
  go_wp2_with ((with_reducible refine wpList_get HW.out Try.underlying32 rfl (by kernel_rfl) ?_ ?_); rfl)
  refine (specImageOf_ok e.x e.y e.r t true w12 EX.out EY.out EOK.out TR.out PE.out).mono ?_
  rw [IE.out]
  rintro en w13 ⟨rfl, hst⟩
  have HA := Lib.hid (HA.out.later hst)
  have HW := Lib.hid (HW.out.later hst)
  have HR := Lib.hid (HR.out.later hst)
  have HB := Lib.hid (below_next HB.out hst)
  have HQ : Hid (w13.rangeAt g 0 e.cells) := range_below HQ.out hst
  clear hst
  go_wp2_with (first | (with_reducible refine wpList_new newWell ?_))
  intro D w14 hN1 hN2 hN3 hN4
  go_wp2_with ((with_reducible refine wpList_gateS ?_); refine wpList_put (cells := #[.int .i8 I.x, .int .i8 I.y, .float .f32 I.r]) hN3 sizeWell rfl (by simp [Value.oneCell']) rfl rfl ?_)
  intro w15 sN bN kN
  have hst := below_grown hN4 kN hN4.size hN1
  have HD' := Lib.hid bN
  clear hN3 sN bN kN hN4 hN1 hN2
  have HA := Lib.hid (HA.out.later hst)
  have HW := Lib.hid (HW.out.later hst)
  have HR := Lib.hid (HR.out.later hst)
  have HB := Lib.hid (below_next HB.out hst)
  have HQ : Hid (w15.rangeAt g 0 e.cells) := range_below HQ.out hst
  clear hst
  have HD := HD'
  go_wp2_with ((with_reducible refine wpList_get HW.out Try.underlying32 rfl (by kernel_rfl) ?_ ?_); rfl)
  refine (ImageOf_ok e.x e.y e.r t false w15 EX.out EY.out EOK.out TR.out PE.out).mono ?_
  rw [JE.out]
  rintro en w16 ⟨rfl, hst⟩
  have HA := Lib.hid (HA.out.later hst)
  have HW := Lib.hid (HW.out.later hst)
  have HR := Lib.hid (HR.out.later hst)
  have HD := Lib.hid (HD.out.later hst)
  have HB := Lib.hid (below_next HB.out hst)
  have HQ : Hid (w16.rangeAt g 0 e.cells) := range_below HQ.out hst
  clear hst
  go_wp2_with (first | (with_reducible refine wpList_new newWell ?_))
  intro L w17 hN1 hN2 hN3 hN4
  go_wp2_with ((with_reducible refine wpList_gateS ?_); refine wpList_put (cells := #[.int .i8 J.x, .int .i8 J.y, .float .f32 J.r]) hN3 sizeWell rfl (by simp [Value.oneCell']) rfl rfl ?_)
  intro w18 sN bN kN
  have hst := below_grown hN4 kN hN4.size hN1
  have HL' := Lib.hid bN
  clear hN3 sN bN kN hN4 hN1 hN2
  have HA := Lib.hid (HA.out.later hst)
  have HW := Lib.hid (HW.out.later hst)
  have HR := Lib.hid (HR.out.later hst)
  have HD := Lib.hid (HD.out.later hst)
  have HB := Lib.hid (below_next HB.out hst)
  have HQ : Hid (w18.rangeAt g 0 e.cells) := range_below HQ.out hst
  clear hst
  have HL := HL'
  go_wp2_with ((with_reducible refine wpList_get HW.out Try.underlying32 rfl (by kernel_rfl) ?_ ?_); rfl)
  refine (specImageOf_ok e.x e.y e.r t false w18 EX.out EY.out EOK.out TR.out PE.out).mono ?_
  rw [JE.out]
  rintro en w19 ⟨rfl, hst⟩
  have HA := Lib.hid (HA.out.later hst)
  have HW := Lib.hid (HW.out.later hst)
  have HR := Lib.hid (HR.out.later hst)
  have HD := Lib.hid (HD.out.later hst)
  have HL := Lib.hid (HL.out.later hst)
  have HB := Lib.hid (below_next HB.out hst)
  have HQ : Hid (w19.rangeAt g 0 e.cells) := range_below HQ.out hst
  clear hst
  go_wp2_with (first | (with_reducible refine wpList_new newWell ?_))
  intro M w20 hN1 hN2 hN3 hN4
  go_wp2_with ((with_reducible refine wpList_gateS ?_); refine wpList_put (cells := #[.int .i8 J.x, .int .i8 J.y, .float .f32 J.r]) hN3 sizeWell rfl (by simp [Value.oneCell']) rfl rfl ?_)
  intro w21 sN bN kN
  have hst := below_grown hN4 kN hN4.size hN1
  have HM' := Lib.hid bN
  clear hN3 sN bN kN hN4 hN1 hN2
  have HA := Lib.hid (HA.out.later hst)
  have HW := Lib.hid (HW.out.later hst)
  have HR := Lib.hid (HR.out.later hst)
  have HD := Lib.hid (HD.out.later hst)
  have HL := Lib.hid (HL.out.later hst)
  have HB := Lib.hid (below_next HB.out hst)
  have HQ : Hid (w21.rangeAt g 0 e.cells) := range_below HQ.out hst
  clear hst
  have HM := HM'
  go_wp2_with ((with_reducible refine wpList_get HD.out Try.underlying32 rfl (by kernel_rfl) ?_ ?_); rfl)
  refine (ImageOf_ok I.x I.y I.r t true w21 IXR.out IYR.out IOK.out TR.out PI.out).mono ?_
  rw [KE.out]
  rintro en w22 ⟨rfl, hst⟩
  have HA := Lib.hid (HA.out.later hst)
  have HW := Lib.hid (HW.out.later hst)
  have HR := Lib.hid (HR.out.later hst)
  have HD := Lib.hid (HD.out.later hst)
  have HL := Lib.hid (HL.out.later hst)
  have HM := Lib.hid (HM.out.later hst)
  have HB := Lib.hid (below_next HB.out hst)
  have HQ : Hid (w22.rangeAt g 0 e.cells) := range_below HQ.out hst
  clear hst
  go_wp2_with (first | (with_reducible refine wpList_new newWell ?_))
  intro G w23 hN1 hN2 hN3 hN4
  go_wp2_with ((with_reducible refine wpList_gateS ?_); refine wpList_put (cells := #[.int .i8 K.x, .int .i8 K.y, .float .f32 K.r]) hN3 sizeWell rfl (by simp [Value.oneCell']) rfl rfl ?_)
  intro w24 sN bN kN
  have hst := below_grown hN4 kN hN4.size hN1
  have HG' := Lib.hid bN
  clear hN3 sN bN kN hN4 hN1 hN2
  have HA := Lib.hid (HA.out.later hst)
  have HW := Lib.hid (HW.out.later hst)
  have HR := Lib.hid (HR.out.later hst)
  have HD := Lib.hid (HD.out.later hst)
  have HL := Lib.hid (HL.out.later hst)
  have HM := Lib.hid (HM.out.later hst)
  have HB := Lib.hid (below_next HB.out hst)
  have HQ : Hid (w24.rangeAt g 0 e.cells) := range_below HQ.out hst
  clear hst
  have HG := HG'
  go_wp2_with fail
  have hone : WAt w24 (.slice (some ⟨g, 0, none⟩) 1 cap) [e] := ⟨_, _, rfl, fun j x hx => by
    cases j with
    | zero => simp at hx; subst hx; exact ⟨⟨EX.out, EY.out⟩, g, rfl, by simpa using HQ.out⟩
    | succ j => simp at hx⟩
  refine (WithImages_one _ e t true w24 hone EOK.out TR.out PE.out).mono ?_
  rw [show imgW e t true = I from IE.out]
  clear hone
  rintro en w25 ⟨u2, rfl, hu2, hst⟩
  have HA := Lib.hid (HA.out.later hst)
  have HW := Lib.hid (HW.out.later hst)
  have HR := Lib.hid (HR.out.later hst)
  have HD := Lib.hid (HD.out.later hst)
  have HL := Lib.hid (HL.out.later hst)
  have HM := Lib.hid (HM.out.later hst)
  have HG := Lib.hid (HG.out.later hst)
  have HB := Lib.hid (below_next HB.out hst)
  have HQ : Hid (w25.rangeAt g 0 e.cells) := range_below HQ.out hst
  clear hst
  obtain ⟨au, cu, rfl, hLu⟩ := hu2
  have HU2 : Hid (WAt w25 (.slice au 2 cu) [e, I]) := ⟨au, cu, rfl, hLu⟩
  clear hLu
  go_wp2_with (first | ((with_reducible refine wpList_getgd ?_ HR.out Try.underlying32 rfl (by kernel_rfl) ?_ ?_); (exact rfl); rfl) | ((with_reducible refine wpList_getgd ?_ HL.out Try.underlying32 rfl (by kernel_rfl) ?_ ?_); (exact rfl); rfl) | ((with_reducible refine wpList_getgd ?_ HG.out Try.underlying32 rfl (by kernel_rfl) ?_ ?_); (exact rfl); rfl) | ((with_reducible refine wpList_getgd ?_ (HD.out.alloc _) Try.underlying32 rfl (by kernel_rfl) ?_ ?_); (exact rfl); rfl) | ((with_reducible refine wpList_getgd ?_ (HM.out.alloc _) Try.underlying32 rfl (by kernel_rfl) ?_ ?_); (exact rfl); rfl) | ((with_reducible refine wpList_getgd ?_ (HW.out.alloc _) Try.underlying32 rfl (by kernel_rfl) ?_ ?_); (exact rfl); rfl))
  refine (SameWells_yes _ _ [I, J, K] [I, J, e] _ (by simp) (SameW.cons rfl rfl rfl (SameW.cons rfl rfl rfl (SameW.cons KX.out KY.out (by rw [KR.out]) SameW.nil))) (wat_blk ((Blk.new' w25 _ _ rfl).alloc _) rfl (fun x hx => by simp only [List.mem_cons, List.not_mem_nil, or_false] at hx; rcases hx with rfl | rfl | rfl; exact ⟨IXR.out, IYR.out⟩; exact ⟨JXR.out, JYR.out⟩; exact ⟨KXR.out, KYR.out⟩)) (wat_blk (Blk.new' (b := w25.heap.size + 1) _ _ _ (by simp)) rfl (fun x hx => by simp only [List.mem_cons, List.not_mem_nil, or_false] at hx; rcases hx with rfl | rfl | rfl; exact ⟨IXR.out, IYR.out⟩; exact ⟨JXR.out, JYR.out⟩; exact ⟨EX.out, EY.out⟩))).mono ?_
  rintro en w26 ⟨rfl, hst0⟩
  have hst : Below w25.heap.size w25 w26 := below_next (((Below.refl _ _).alloc (Nat.le_refl _) _).alloc (by simp) _) hst0
  clear hst0
  have HU2 := Lib.hid (HU2.out.far hst)
  have HA := Lib.hid (HA.out.later hst)
  have HW := Lib.hid (HW.out.later hst)
  have HR := Lib.hid (HR.out.later hst)
  have HD := Lib.hid (HD.out.later hst)
  have HL := Lib.hid (HL.out.later hst)
  have HM := Lib.hid (HM.out.later hst)
  have HG := Lib.hid (HG.out.later hst)
  have HB := Lib.hid (below_next HB.out hst)
  have HQ : Hid (w26.rangeAt g 0 e.cells) := range_below HQ.out hst
  clear hst
  go_wp2_with (first | ((with_reducible refine wpList_getgd ?_ HD.out Try.underlying32 rfl (by kernel_rfl) ?_ ?_); (exact rfl); rfl) | ((with_reducible refine wpList_getgd ?_ HW.out Try.underlying32 rfl (by kernel_rfl) ?_ ?_); (exact rfl); rfl))
  refine (SameWells_yes _ _ [e, I] [e, I] _ (by simp) (SameW.cons rfl rfl rfl (SameW.cons rfl rfl rfl SameW.nil)) (HU2.out.far ((Below.refl _ _).alloc (Nat.le_refl _) _)) (wat_blk (Blk.new' w26 _ _ rfl) rfl (fun x hx => by simp only [List.mem_cons, List.not_mem_nil, or_false] at hx; rcases hx with rfl | rfl; exact ⟨EX.out, EY.out⟩; exact ⟨IXR.out, IYR.out⟩))).mono ?_
  rintro en w27 ⟨rfl, hst0⟩
  have hst : Below w26.heap.size w26 w27 := below_next ((Below.refl _ _).alloc (Nat.le_refl _) _) hst0
  clear hst0 HU2
  have HA := Lib.hid (HA.out.later hst)
  have HW := Lib.hid (HW.out.later hst)
  have HR := Lib.hid (HR.out.later hst)
  have HD := Lib.hid (HD.out.later hst)
  have HL := Lib.hid (HL.out.later hst)
  have HM := Lib.hid (HM.out.later hst)
  have HG := Lib.hid (HG.out.later hst)
  have HB := Lib.hid (below_next HB.out hst)
  have HQ : Hid (w27.rangeAt g 0 e.cells) := range_below HQ.out hst
  clear hst
  go_wp2_with (first | ((with_reducible refine wpList_get HA.out Try.underlying30 rfl (by kernel_rfl) ?_ ?_); rfl) | ((with_reducible refine wpList_get HW.out Try.underlying32 rfl (by kernel_rfl) ?_ ?_); rfl) | ((with_reducible refine wpList_get HD.out Try.underlying32 rfl (by kernel_rfl) ?_ ?_); rfl))
  refine (SumAt_any T S _ [e, I] ((za : Int) - 5) zy (1 + zt) _ (by simp) (wat_blk (Blk.new' w27 _ _ rfl) rfl (fun x hx => by simp only [List.mem_cons, List.not_mem_nil, or_false] at hx; rcases hx with rfl | rfl; exact ⟨EX.out, EY.out⟩; exact ⟨IXR.out, IYR.out⟩))).mono ?_
  rw [sumR_two HOK.out EOK.out IOK.out (by omega) (by omega) (by omega)]
  rintro en w28 ⟨q1, rfl, hq10, hst0⟩
  have hq1 := Lib.hid hq10
  have hst : Below w27.heap.size w27 w28 := below_next ((Below.refl _ _).alloc (Nat.le_refl _) _) hst0
  clear hst0 hq10
  have HA := Lib.hid (HA.out.later hst)
  have HW := Lib.hid (HW.out.later hst)
  have HR := Lib.hid (HR.out.later hst)
  have HD := Lib.hid (HD.out.later hst)
  have HL := Lib.hid (HL.out.later hst)
  have HM := Lib.hid (HM.out.later hst)
  have HG := Lib.hid (HG.out.later hst)
  have HB := Lib.hid (below_next HB.out hst)
  have HQ : Hid (w28.rangeAt g 0 e.cells) := range_below HQ.out hst
  clear hst
  go_wp2_with fail
  refine (P6Pick_any v2 n2 10 w28 N2'.out (by omega) (by omega) (HV2.out.far HB.out)).mono ?_
  rintro en w29 ⟨zf, rfl, hzf, hst⟩
  have hzf1 : (zf : Int) < 10 := by omega
  have HA := Lib.hid (HA.out.later hst)
  have HW := Lib.hid (HW.out.later hst)
  have HR := Lib.hid (HR.out.later hst)
  have HD := Lib.hid (HD.out.later hst)
  have HL := Lib.hid (HL.out.later hst)
  have HM := Lib.hid (HM.out.later hst)
  have HG := Lib.hid (HG.out.later hst)
  have HB := Lib.hid (below_next HB.out hst)
  have HQ : Hid (w29.rangeAt g 0 e.cells) := range_below HQ.out hst
  clear hst
  go_wp2_with (first | ((with_reducible refine wpList_get HA.out Try.underlying30 rfl (by kernel_rfl) ?_ ?_); rfl) | ((with_reducible refine wpList_get HW.out Try.underlying32 rfl (by kernel_rfl) ?_ ?_); rfl) | ((with_reducible refine wpList_get HM.out Try.underlying32 rfl (by kernel_rfl) ?_ ?_); rfl))
  refine (SumAt_any T S _ [e, J] ((za : Int) - 5 + zf) zy (1 + zt) _ (by simp) (wat_blk (Blk.new' w29 _ _ rfl) rfl (fun x hx => by simp only [List.mem_cons, List.not_mem_nil, or_false] at hx; rcases hx with rfl | rfl; exact ⟨EX.out, EY.out⟩; exact ⟨JXR.out, JYR.out⟩))).mono ?_
  rw [sumR_two HOK.out EOK.out JOK.out (by omega) (by omega) (by omega)]
  rintro en w30 ⟨q2, rfl, hq20, hst0⟩
  have hq2 := Lib.hid hq20
  have hst : Below w29.heap.size w29 w30 := below_next ((Below.refl _ _).alloc (Nat.le_refl _) _) hst0
  clear hst0 hq20
  have HA := Lib.hid (HA.out.later hst)
  have HW := Lib.hid (HW.out.later hst)
  have HR := Lib.hid (HR.out.later hst)
  have HD := Lib.hid (HD.out.later hst)
  have HL := Lib.hid (HL.out.later hst)
  have HM := Lib.hid (HM.out.later hst)
  have HG := Lib.hid (HG.out.later hst)
  have HB := Lib.hid (below_next HB.out hst)
  have HQ : Hid (w30.rangeAt g 0 e.cells) := range_below HQ.out hst
  clear hst
  go_wp2_with (first | ((with_reducible refine wpList_get HA.out Try.underlying30 rfl (by kernel_rfl) ?_ ?_); rfl) | ((with_reducible refine wpList_get HW.out Try.underlying32 rfl (by kernel_rfl) ?_ ?_); rfl) | ((with_reducible refine wpList_get HM.out Try.underlying32 rfl (by kernel_rfl) ?_ ?_); rfl))
  refine (SumAt_any T S _ [e, J] ((za : Int) - 5 - zf) zy (1 + zt) _ (by simp) (wat_blk (Blk.new' w30 _ _ rfl) rfl (fun x hx => by simp only [List.mem_cons, List.not_mem_nil, or_false] at hx; rcases hx with rfl | rfl; exact ⟨EX.out, EY.out⟩; exact ⟨JXR.out, JYR.out⟩))).mono ?_
  rw [sumR_two HOK.out EOK.out JOK.out (by omega) (by omega) (by omega)]
  rintro en w31 ⟨q3, rfl, hq30, hst0⟩
  have hq3 := Lib.hid hq30
  have hst : Below w30.heap.size w30 w31 := below_next ((Below.refl _ _).alloc (Nat.le_refl _) _) hst0
  clear hst0 hq30
  have HA := Lib.hid (HA.out.later hst)
  have HW := Lib.hid (HW.out.later hst)
  have HR := Lib.hid (HR.out.later hst)
  have HD := Lib.hid (HD.out.later hst)
  have HL := Lib.hid (HL.out.later hst)
  have HM := Lib.hid (HM.out.later hst)
  have HG := Lib.hid (HG.out.later hst)
  have HB := Lib.hid (below_next HB.out hst)
  have HQ : Hid (w31.rangeAt g 0 e.cells) := range_below HQ.out hst
  clear hst
  have hzero : feq (fb q1) (fb 0) = true := by
    rw [show fb q1 = _ from hq1.out]
    show feq (fadd (downF _ _ _ _ _ _) (downF _ _ _ _ _ _)) _ = true
    rw [IR.out, IX.out, IY.out, show (za : Int) - 5 - (t - e.x) = -((za : Int) - 5 - e.x) by omega, downF_neg]
    rw [down_opp ⟨HOK.out, by omega, by omega, by omega, by omega, by omega⟩ HRW.out.pl HRW.out.opp]
    decide +kernel
  have hsame : Hid (fb q2 = fb q3) := by
    show _ = _
    rw [show fb q2 = _ from hq2.out, show fb q3 = _ from hq3.out]
    show fadd (downF _ _ _ _ _ _) (downF _ _ _ _ _ _) = fadd (downF _ _ _ _ _ _) (downF _ _ _ _ _ _)
    rw [JR.out, JX.out, JY.out, show (za : Int) - 5 + zf - (t - e.x) = -((za : Int) - 5 - zf - e.x) by omega, show (za : Int) - 5 - zf - (t - e.x) = -((za : Int) - 5 + zf - e.x) by omega, downF_neg, downF_neg]
    exact fadd_comm _ _
  clear hq1 hq2 hq3
  go_wp2_with (go_at_call 30; refine (SameNumber_eq q2 q3 _ hsame.out).mono ?_; rintro en w' ⟨rfl, rfl⟩)
  go_ret
  exact ⟨rfl, HB.out⟩
end Go.Proofs.Ytbhnnglpakdigaa