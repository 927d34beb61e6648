/- A list of one well with its image; lists that are the same. -/
import Derived.Test.YtbhnnglpakdigaaImgOf
import Derived.Test.YtbhnnglpakdigaaWask
import Derived.Test.YtbhnnglpakdigaaSameN
import Derived.Lib.SliceRun
namespace Go.Proofs.Ytbhnnglpakdigaa
open Go.RowKit

theorem WAt.one {w : World} {v : Value} {e : We} (h : WAt w v [e]) : ∃ g cap, v = .slice (some ⟨g, 0, none⟩) 1 cap ∧ e.Rng ∧ w.rangeAt g 0 e.cells := by
  obtain ⟨a, cap, rfl, hL⟩ := h
  obtain ⟨h1, g, rfl, h2⟩ := hL 0 e rfl
  exact ⟨g, cap, rfl, h1, by simpa using h2⟩

theorem rng_new {w : World} {g : Nat} {cs : List Value} (h : w.rangeAt g 0 cs) (o : Obj) : ∀ j u, cs[j]? = some u → (w.alloc o).cell? ((⟨g, 0, none⟩ : Addr).add j) = some u := by
  intro j u hu
  have h := cell_below ((Below.refl w.heap.size w).alloc (Nat.le_refl _) o) (h j u hu)
  by_cases h0 : j = 0
  · subst h0; simpa [Addr.add] using h
  · simpa [Addr.add, h0] using h

set_option maxRecDepth 100000 in
set_option maxHeartbeats 1600000 in
theorem CloneW_one (v : Value) (e : We) (w : World) (hv : WAt w v [e]) :
    Calls Try.prog 67 #[v] w fun en w' => ∃ u, en = .returned u ∧ w'.ownsRow w.heap.size 32 3 u 1 e.cells ∧ Below w.heap.size w w' := by
  obtain ⟨i0, hi, hz0, hz1, hz2⟩ := info_parts infoWell
  obtain ⟨g, cap, rfl, hr, hq⟩ := hv.one
  have HQ := Lib.hid hq
  clear hv hq
  have hnil : ∀ W, (binOp .eql 45 (.slice (some ⟨g, 0, none⟩) 1 cap) (.slice none 0 0)).run Try.prog W = .ok (.bool false) W := fun W => Lib.run_eql_slice_nil W _ _ _ _ _ _ _ Try.underlying45
  go_enter Try.func67, Try.ntmps67
  go_wp2_with (at_builtin; refine wpList_append_own _ rfl _ _ 45 rfl w.heap.size 32 i0 (.agg #[.int .i8 0, .int .i8 0, .float .f32 0]) 3 8 Try.underlying45 hi hz0 hz1 hz2 rfl (by decide) _ _ _ rfl (World.ownsRow_lit w #[] 0 (Nat.le_refl _) (by simp [maxLen]) rfl) ⟨g, 0, none⟩ 1 cap e.cells rfl rfl (rng_new HQ.out _) (by simp [We.cells, Value.oneCell']) (by decide) (by decide) (by simp) ?_)
  intro v' w9 hown9 hgrow _
  have HO9 := Lib.hid hown9
  have HB9 : Hid (Below w.heap.size w w9) := ((Below.refl w.heap.size w).alloc (Nat.le_refl _) _).grown hgrow (by simp) (fun q hq => by cases hq; exact Nat.le_refl _)
  clear hown9 hgrow
  go_wp2_with fail
  go_ret
  exact ⟨_, rfl, HO9.out, HB9.out⟩

def WiRel (e i : We) (B : Nat) (w : World) (v8 v25 : Value) (wr : World) : Prop :=
  ((v25 = .int .i64 0 ∧ wr.ownsRow B 32 3 v8 1 (flatW [e])) ∨ (v25 = .int .i64 1 ∧ wr.ownsRow B 32 3 v8 2 (flatW [e, i]))) ∧ Below w.heap.size w wr

set_option maxRecDepth 100000 in
set_option maxHeartbeats 1600000 in
theorem WithImages_one (v : Value) (e : We) (t : Int) (river : Bool) (w : World) (hv : WAt w v [e]) (hok : e.ok = true) (ht : -400 ≤ t ∧ t ≤ 400) (hp : placeB (t - e.x) = true) :
    Calls Try.prog 27 #[v, .int .i64 t, .bool river] w fun en w' => ∃ u, en = .returned (.tuple #[u, .int .i64 0]) ∧ WAt w' u [e, imgW e t river] ∧ Below w.heap.size w w' := by
  obtain ⟨i0, hi, hz0, hz1, hz2⟩ := info_parts infoWell
  obtain ⟨g, cap, rfl, hr, hq⟩ := hv.one
  have HV := Lib.hid hv
  have HQ := Lib.hid hq
  have HOK := Lib.hid hok
  have HP := Lib.hid hp
  have HT := Lib.hid ht
  have HR := Lib.hid hr
  have hir : (imgW e t river).Rng := ⟨by have := place_in hp; show -128 ≤ t - e.x ∧ t - e.x ≤ 127; omega, hr.2⟩
  have HIR := Lib.hid hir
  clear hv hq hok hp ht hir hr
  go_enter Try.func27, Try.ntmps27
  go_wp2_with fail
  refine (ContainsW_any _ [e] w (by simp) HV.out).mono ?_
  rw [show (!([e].all We.ok)) = false by simp [HOK.out]]
  rintro en w1 ⟨rfl, hb1⟩
  have HB1 := Lib.hid hb1
  have HV1 := Lib.hid (HV.out.far hb1)
  clear hb1
  go_wp2_with fail
  refine (CloneW_one _ e w1 HV1.out).mono ?_
  rintro en w2 ⟨u, rfl, hown, hb2⟩
  have HB2 := Lib.hid (below_next HB1.out hb2)
  have HO2 := Lib.hid hown
  have HQ2 : Hid (w1.rangeAt g 0 e.cells) := range_below HQ.out HB1.out
  have HB12 := Lib.hid hb2
  have hsz := HB1.out.size
  clear hown hb2
  go_wp2_with fail
  go_loopw [8, 25] (fun v8 v25 wr => WiRel e (imgW e t river) w1.heap.size w1 v8 v25 wr) (fun _ v25 _ => 1 - (intOf v25).toNat)
  case atStart => exact ⟨.inl ⟨rfl, by simpa [flatW] using HO2.out⟩, HB12.out⟩
  case round =>
    obtain ⟨h, hB⟩ := hrel
    have HBr := Lib.hid hB
    have HBw := Lib.hid (below_next HB1.out hB)
    have HQr : Hid (wr.rangeAt g 0 e.cells) := range_below HQ2.out hB
    clear hB
    rcases h with ⟨rfl, hown⟩ | ⟨rfl, hown⟩
    · have HO := Lib.hid hown
      clear hown
      have hbs := HBw.out.size
      go_wp2_with (first | ((with_reducible refine wpList_gateL ?_); refine wpList_load_mid rfl _ _ rfl g 0 rfl e.cells _ HQr.out Try.underlying32 rfl sizeWell ?_) | (with_reducible refine wpList_new newWell ?_))
      intro A w3 hA1 hA2 hA3 hA4
      have HO3 := Lib.hid (owns_belowN HO.out hA4)
      have HB3 := Lib.hid (below_next HBw.out hA4)
      have HBr3 := Lib.hid (below_next HBr.out hA4)
      have hOl : ∀ q, Value.ownBlock _ = some q → q < wr.heap.size := fun q hq => (HO.out.lt q hq).2
      have hszr := HBr.out.size
      clear hA4
      go_wp2_with ((with_reducible refine wpList_gateS ?_); refine wpList_put (cells := e.cells.toArray) hA3 sizeWell rfl (by simp [We.cells, Value.oneCell']) rfl rfl ?_)
      intro w4 s4 b4 k4
      have HA4 := Lib.hid b4
      have HO4 := Lib.hid (owns_farN HO3.out k4 (fun q hq => by have := hOl q hq; omega))
      have HB4 := Lib.hid (below_grown HB3.out k4 HB3.out.size (by omega))
      have HBr4 := Lib.hid (below_grown HBr3.out k4 HBr3.out.size (by omega))
      clear hA3 s4 b4 k4
      go_wp2_with ((with_reducible refine wpList_get HA4.out Try.underlying32 rfl (by kernel_rfl) ?_ ?_); rfl)
      refine (ImageOf_ok e.x e.y e.r t river w4 HR.out.1 HR.out.2 HOK.out HT.out HP.out).mono ?_
      rintro en w5 ⟨rfl, hb5⟩
      have HO5 := Lib.hid (owns_belowN HO4.out hb5)
      have HB5 := Lib.hid (below_next HB4.out hb5)
      have HBr5 := Lib.hid (below_next HBr4.out hb5)
      clear hb5
      go_wp2_with (with_reducible refine wpList_new newWell ?_)
      intro C w6 hC1 hC2 hC3 hC4
      have HO6 := Lib.hid (owns_belowN HO5.out hC4)
      have HB6 := Lib.hid (below_next HB5.out hC4)
      have HBr6 := Lib.hid (below_next HBr5.out hC4)
      have hOl5 : ∀ q, Value.ownBlock _ = some q → q < w5.heap.size := fun q hq => (HO5.out.lt q hq).2
      have hbs5 := HB5.out.size
      have hbs6 := HBr5.out.size
      clear hC4
      go_wp2_with ((with_reducible refine wpList_gateS ?_); refine wpList_put (cells := #[.int .i8 (imgW e t river).x, .int .i8 (imgW e t river).y, .float .f32 (imgW e t river).r]) hC3 sizeWell rfl (by simp [Value.oneCell']) rfl rfl ?_)
      intro w7 s7 b7 k7
      have HC7 := Lib.hid b7
      have HO7 := Lib.hid (owns_farN HO6.out k7 (fun q hq => by have := hOl5 q hq; omega))
      have HB7 := Lib.hid (below_grown HB6.out k7 HB6.out.size (by omega))
      have HBr7 := Lib.hid (below_grown HBr6.out k7 HBr6.out.size (by omega))
      have hbs7 := HB7.out.size
      have hbr7 := HBr7.out.size
      clear hC3 s7 b7 k7
      go_wp2_with (first | ((with_reducible refine wpList_get HC7.out Try.underlying32 rfl (by kernel_rfl) ?_ ?_); rfl) | (at_builtin; refine wpList_append_own _ rfl _ _ 45 rfl w1.heap.size 32 i0 (.agg #[.int .i8 0, .int .i8 0, .float .f32 0]) 3 8 Try.underlying45 hi hz0 hz1 hz2 rfl (by decide) _ _ _ rfl (HO7.out.alloc _) ⟨w7.heap.size, 0, none⟩ 1 1 (imgW e t river).cells rfl rfl (cells_new w7 #[.int .i8 (imgW e t river).x, .int .i8 (imgW e t river).y, .float .f32 (imgW e t river).r] 32) (by simp [We.cells, Value.oneCell']) (by decide) (by decide) (by simp; omega) ?_))
      intro v' w9 hown9 hgrow _
      have HO9 := Lib.hid hown9
      have HBr9 : Hid (Below w1.heap.size w1 w9) := (HBr7.out.alloc (by omega) _).grown hgrow (by simp; omega) (fun q hq => (HO7.out.lt q hq).1)
      clear hown9 hgrow
      go_wp2_with fail
      go_roundw
      case rel => exact ⟨.inr ⟨by go_num, by simpa [flatW] using HO9.out⟩, HBr9.out⟩
      case measure => simp [intOf]
    · have HO := Lib.hid hown
      clear hown
      go_wp2_with fail
      go_ret2
      exact ⟨_, rfl, wat_owned (l := [e, imgW e t river]) HO.out (fun x hx => by simp at hx; rcases hx with rfl | rfl; exact HR.out; exact HIR.out), HBw.out⟩
/-- The same places, the same numbers. -/
def SameW (l l' : List We) : Prop := l.length = l'.length ∧ ∀ (j : Nat) (e e' : We), l[j]? = some e → l'[j]? = some e' → e.x = e'.x ∧ e.y = e'.y ∧ fb e.r = fb e'.r

set_option maxRecDepth 100000 in
set_option maxHeartbeats 1600000 in
theorem SameWells_yes (v v' : Value) (l l' : List We) (w : World) (hlen : l.length ≤ 12) (hs : SameW l l') (hv : WAt w v l) (hv' : WAt w v' l') :
    Calls Try.prog 28 #[v, v'] w (RetB true w) := by
  obtain ⟨aL, cap, rfl, hL⟩ := hv
  obtain ⟨aL', cap', rfl, hL'⟩ := hv'
  obtain ⟨s1, s2⟩ := hs
  rw [← s1]
  have HL := Lib.hid hL
  have HL' := Lib.hid hL'
  have S1 := Lib.hid s1
  have S2 := Lib.hid s2
  clear hL hL' s1 s2
  go_enter Try.func28, Try.ntmps28
  go_wp2_with fail
  go_loopw [5] (fun v5 wr => EqWRel l w v5 wr) (fun v5 _ => l.length - (intOf v5).toNat)
  case atStart => exact ⟨0, by omega, rfl, Below.refl _ _⟩
  case round =>
    obtain ⟨j, hj, rfl, hB⟩ := hrel
    have HB := Lib.hid hB
    clear hB
    by_cases hlt : j < l.length
    · obtain ⟨e, he⟩ : ∃ e, l[j]? = some e := ⟨_, List.getElem?_eq_getElem hlt⟩
      obtain ⟨e', he'⟩ : ∃ e', l'[j]? = some e' := ⟨_, List.getElem?_eq_getElem (by rw [← S1.out]; exact hlt)⟩
      obtain ⟨_, g, rfl, hq⟩ := HL.out j e he
      obtain ⟨_, g', rfl, hq'⟩ := HL'.out j e' he'
      obtain ⟨q1, q2, q3⟩ := S2.out j e e' he he'
      have HN := Lib.hid q3
      have c0 : ∀ z, (ext wr z).cell? ⟨g, j * 3, none⟩ = some (.int .i8 e.x) := fun z => ext_cell wr z (cell_below HB.out (hq 0 _ rfl))
      have c1 : ∀ z, (ext wr z).cell? ⟨g, j * 3 + 1, none⟩ = some (.int .i8 e.y) := fun z => ext_cell wr z (cell_below HB.out (hq 1 _ rfl))
      have c2 : ∀ z, (ext wr z).cell? ⟨g, j * 3 + 2, none⟩ = some (.float .f32 e.r) := fun z => ext_cell wr z (cell_below HB.out (hq 2 _ rfl))
      have d0 : ∀ z, (ext wr z).cell? ⟨g', j * 3, none⟩ = some (.int .i8 e.x) := fun z => by rw [q1]; exact ext_cell wr z (cell_below HB.out (hq' 0 _ rfl))
      have d1 : ∀ z, (ext wr z).cell? ⟨g', j * 3 + 1, none⟩ = some (.int .i8 e.y) := fun z => by rw [q2]; exact ext_cell wr z (cell_below HB.out (hq' 1 _ rfl))
      have d2 : ∀ z, (ext wr z).cell? ⟨g', j * 3 + 2, none⟩ = some (.float .f32 e'.r) := fun z => ext_cell wr z (cell_below HB.out (hq' 2 _ rfl))
      have j1 : (j : Int) < (l.length : Int) := by omega
      clear hq hq' he he' q1 q2 q3
      go_wp2_with fail
      refine wp_soft (SV (.bool true)) (by kernel_rfl) (by kernel_rfl) ?_
      repeat (first | (refine soft_step (fun K hK => ?_); go_simp; (try go_bits); refine hK _ ?_; clear hK K) | (refine soft_step (fun K hK => ?_); go_simp; refine ⟨_, _, ⟨rfl, rfl⟩, fun zz => (SameNumber_eq e.r e'.r _ HN.out).mono ?_, ?_⟩; (rintro e1 w1 ⟨he, rfl⟩; exact ⟨_, he, rfl, Below.refl _ _⟩); rintro v rfl; refine hK _ ?_; clear hK K))
      refine soft_nil ?_
      rintro w5 hw5
      have HB5 := Lib.hid (below_next HB.out hw5.below)
      clear hw5
      go_wp2_with fail
      go_roundw
      case rel => exact ⟨j + 1, by omega, by go_num, HB5.out⟩
      case measure => simp [intOf]; omega
    · have j1 : ¬ (j : Int) < (l.length : Int) := by omega
      go_wp2_with fail
      go_ret
      exact ⟨rfl, HB.out⟩
end Go.Proofs.Ytbhnnglpakdigaa
