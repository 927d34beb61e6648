/- A brine with heads and gains reversed: both sides. -/
import Derived.Test.YtfddjbpfahjleaaBrDec
import Derived.BigRegion
namespace Go.Proofs.Ytfddjbpfahjleaa
open Go.RowKit

def neg0 (f : Nat → F) (c : Nat) : F := fsub (some 0) (f c)
def revN (n : N) : N := { n with g := { n.g with h := updL n.g.h (neg0 n.g.h) (cellsTo n.g.wide n.g.high 64), g := updL n.g.g (neg0 n.g.g) (cellsTo n.g.wide n.g.high 64) } }
def revR (n : N) : N × Int := if okB n then (if okB (revN n) then (revN n, 0) else (B0.n, 4)) else (B0.n, 1)
def withHG (x : Br) (h' g' : Nat → Nat) : Br := { x with gr := { x.gr with h := h', g := g' } }
theorem n_withHG {x : Br} {h' g' : Nat → Nat} {fh fg : Nat → F} (h1 : fm h' = fh) (h2 : fm g' = fg) : (withHG x h' g').n = { x.n with g := { x.n.g with h := fh, g := fg } } := by subst h1; subst h2; rfl
theorem zero_plain : plain (some 0) = true := by decide
theorem gain_plain {m : M} (h : okI m = true) {c : Nat} (hc : c < 64) (hh : hasB m.wide m.high c = true) : plain (m.g c) = true := by
  unfold okI fieldsI at h
  simp only [Bool.and_eq_true] at h
  have h3 := h.1.2.1.2
  unfold fieldTo at h3
  have := List.all_eq_true.1 h3 c (List.mem_range.2 hc)
  rw [hh] at this
  exact this
theorem cell_setGk (g : G) {k : Nat} (hk : k < 64) (r i : Nat) : G.cell { g with g := upd g.g k r } i = if i = 66 + k then .float .f32 r else g.cell i := by
  unfold G.cell upd
  by_cases h1 : i < 130 ∧ 66 ≤ i
  · obtain ⟨p1, p2⟩ := h1
    have n0 : ¬ i = 0 := by omega
    have n1 : ¬ i = 1 := by omega
    have n2 : ¬ i < 66 := by omega
    simp only [n0, n1, n2, p1, if_false, if_true]
    by_cases e : i = 66 + k
    · rw [if_pos e, if_pos (by omega)]
    · rw [if_neg e, if_neg (by omega)]
  · rw [if_neg (by omega : ¬ i = 66 + k)]
    repeat' (first | (exfalso; omega) | split | rfl)
theorem cellB_setH (x : Br) (h' g' : Nat → Nat) {k : Nat} (hk : k < 64) (r i : Nat) : (withHG x (upd h' k r) g').cell i = if i = 130 + k then .float .f32 r else (withHG x h' g').cell i := by
  unfold Br.cell
  by_cases h : i < 195
  · rw [if_pos h, if_pos h]
    exact cell_setH ({ x.gr with h := h', g := g' } : G) hk r i
  · rw [if_neg h, if_neg h]; exact (if_neg (by omega)).symm
theorem cellB_setG (x : Br) (h' g' : Nat → Nat) {k : Nat} (hk : k < 64) (r i : Nat) : (withHG x h' (upd g' k r)).cell i = if i = 66 + k then .float .f32 r else (withHG x h' g').cell i := by
  unfold Br.cell
  by_cases h : i < 195
  · rw [if_pos h, if_pos h]
    exact cell_setGk ({ x.gr with h := h', g := g' } : G) hk r i
  · rw [if_neg h, if_neg h]; exact (if_neg (by omega)).symm
theorem arrB_setH (x : Br) (h' g' : Nat → Nat) {k : Nat} (hk : k < 64) (r : Nat) : (arrB (withHG x h' g')).setIfInBounds (130 + k) (.float .f32 r) = arrB (withHG x (upd h' k r) g') :=
  arrB_set1 (by omega) fun i _ => cellB_setH x h' g' hk r i
theorem arrB_setG (x : Br) (h' g' : Nat → Nat) {k : Nat} (hk : k < 64) (r : Nat) : (arrB (withHG x h' g')).setIfInBounds (66 + k) (.float .f32 r) = arrB (withHG x h' (upd g' k r)) :=
  arrB_set1 (by omega) fun i _ => cellB_setG x h' g' hk r i
theorem hg_cells {w : World} {b : Nat} {x : Br} {h' g' : Nat → Nat} {t : TypeId} (hb : Blk w b (arrB (withHG x h' g')) t) {k : Nat} (hk : k < 64) :
    w.cell? ⟨b, 130 + k, none⟩ = some (.float .f32 (h' k)) ∧ w.cell? ⟨b, 66 + k, none⟩ = some (.float .f32 (g' k)) := by
  have h1 := BAt.of_blk hb (130 + k) (by omega)
  have h2 := BAt.of_blk hb (66 + k) (by omega)
  unfold Br.cell withHG at h1 h2
  rw [if_pos (by omega)] at h1 h2
  unfold G.cell at h1 h2
  rw [if_neg (by omega), if_neg (by omega), if_neg (by omega), if_neg (by omega), if_pos (by omega), Nat.add_sub_cancel_left] at h1
  rw [if_neg (by omega), if_neg (by omega), if_neg (by omega), if_pos (by omega), Nat.add_sub_cancel_left] at h2
  exact ⟨h1, h2⟩

section
variable {ops : Array Oper} {Q : Exit → Act → World → Prop} {rest : List Oper} {a : Act} {w : World} {dst : Option Tmp} {ty : TypeId} {X Y : Operand} {pos : String} {after : Array Edge} {B : Nat} {t : TypeId}
theorem wpList_setBH {x : Br} {h' g' : Nat → Nat} {k r : Nat} (hg : Blk w B (arrB (withHG x h' g')) t) (hk : k < 64) (hx : a.eval X = .pointer (some ⟨B, 130 + k, none⟩)) (hy : a.eval Y = .float .f32 r)
    (h : ∀ w', w'.heap.size = w.heap.size → Blk w' B (arrB (withHG x (upd h' k r) g')) t → w.grownBy w' (some B) → wpList Try.prog ops Q rest (a.put dst undef) w') : wpList Try.prog ops Q (⟨dst, .store 23 X Y, ty, pos, after, none⟩ :: rest) a w :=
  wpList_put1 size32 hg (by rw [arrB_size]; omega) hx hy rfl rfl (by rw [arrB_setH x h' g' hk]; exact h)
theorem wpList_setBG {x : Br} {h' g' : Nat → Nat} {k r : Nat} (hg : Blk w B (arrB (withHG x h' g')) t) (hk : k < 64) (hx : a.eval X = .pointer (some ⟨B, 66 + k, none⟩)) (hy : a.eval Y = .float .f32 r)
    (h : ∀ w', w'.heap.size = w.heap.size → Blk w' B (arrB (withHG x h' (upd g' k r))) t → w.grownBy w' (some B) → wpList Try.prog ops Q rest (a.put dst undef) w') : wpList Try.prog ops Q (⟨dst, .store 23 X Y, ty, pos, after, none⟩ :: rest) a w :=
  wpList_put1 size32 hg (by rw [arrB_size]; omega) hx hy rfl rfl (by rw [arrB_setG x h' g' hk]; exact h)
end

/-- The brine so far. -/
def RevRel (x : Br) (f : Nat → List Nat) (most : Nat) (w : World) (O : Nat) (v : Value) (wr : World) : Prop :=
  ∃ (j : Nat) (h' g' : Nat → Nat), j ≤ most ∧ v = .int .i64 j ∧ fm h' = updL (fm x.gr.h) (neg0 (fm x.gr.h)) (f j) ∧ fm g' = updL (fm x.gr.g) (neg0 (fm x.gr.g)) (f j) ∧ Blk wr O (arrB (withHG x h' g')) 36 ∧ w.grownBy wr (some O)

set_option maxRecDepth 100000 in
set_option maxHeartbeats 3200000 in
theorem ReverseBrine_any (x : Br) (w : World) (hr : x.gr.Rng) (hx : x.gr.Fx) :
    Calls Try.prog 24 #[.agg (arrB x)] w (RetBC' (revR x.n) w) := by
  cases hok : okB x.n
  · have HW : Hid (revR x.n = (B0.n, 1)) := by show _ = _; unfold revR; rw [hok]; rfl
    have HOK := Lib.hid hok
    clear hok
    go_enter Try.func24, Try.ntmps24
    go_wp2_with (with_reducible refine wpList_box rfl ?_)
    intro b w1 hB1 hB2 hB3 hB4
    go_wp2_with (with_reducible refine wpList_new newB ?_)
    intro R w2 hR1 hR2 hR3 hR4
    have hX2 := hB3.later hR4
    have hbR : b < R := by have := hB4.size; omega
    have HB2 := Lib.hid (hB4.trans (hR4.mono hB4.size))
    have hwR : w.heap.size ≤ R := by have := hB4.size; omega
    clear hB3 hB4 hR4
    go_wp2_with ((with_reducible refine wpList_getB hX2 ?_ ?_); rfl)
    refine (ValidBrine_any x w2 hr hx).mono ?_
    rw [HOK.out]
    rintro e w3 ⟨rfl, hb3⟩
    have hX3 := hX2.later hb3
    have hR3' := hR3.later hb3
    have HB3 := Lib.hid (HB2.out.trans (hb3.mono HB2.out.size))
    clear hb3 hX2 hR3
    go_wp2_with (first | (with_reducible refine wpList_zero (zeroB _) ?_) | ((with_reducible refine wpList_putB (x := B0) hR3' ?_ ?_ ?_); rfl; rfl))
    intro w20 s20 b20 k20
    go_wp2_with fail
    refine ret_cell2 rfl rfl (loadB b20) rfl ⟨B0, by rw [HW.out]; rfl, by rw [HW.out], ?_⟩
    exact below_grown HB3.out k20 HB3.out.size hwR
  have HW0 : Hid (revR x.n = (if okB (revN x.n) then (revN x.n, 0) else (B0.n, 4))) := by show _ = _; unfold revR; rw [hok]; rfl
  have HOI : Hid (okI x.gr.m = true) := by
    have := hok
    unfold okB at this
    rw [Bool.and_eq_true] at this
    exact this.1
  have HOK := Lib.hid hok
  clear hok
  go_enter Try.func24, Try.ntmps24
  go_wp2_with (with_reducible refine wpList_box rfl ?_)
  intro b w1 hB1 hB2 hB3 hB4
  go_wp2_with (with_reducible refine wpList_new newB ?_)
  intro R w2 hR1 hR2 hR3 hR4
  have hX2 := hB3.later hR4
  have hbR : b < R := by have := hB4.size; omega
  have HB2 := Lib.hid (hB4.trans (hR4.mono hB4.size))
  have hwR : w.heap.size ≤ R := by have := hB4.size; omega
  clear hB3 hB4 hR4
  go_wp2_with ((with_reducible refine wpList_getB hX2 ?_ ?_); rfl)
  refine (ValidBrine_any x w2 hr hx).mono ?_
  rw [HOK.out]
  rintro e w3 ⟨rfl, hb3⟩
  have hX3 := hX2.later hb3
  have hR3' := hR3.later hb3
  have HB3 := Lib.hid (HB2.out.trans (hb3.mono HB2.out.size))
  clear hb3 hX2 hR3
  go_wp2_with fail
  refine (cells_any b 0 x.gr w3 hr (BAt.of_blk hX3).g).mono ?_
  rintro e w5 ⟨v, rfl, hown, hb5⟩
  obtain ⟨aL, cap, rfl, hL⟩ := list_form hown
  have HL := Lib.hid hL
  have HX5 := Lib.hid (hX3.later hb5)
  have HR5 := Lib.hid (hR3'.later hb5)
  have HB5 := Lib.hid (HB3.out.trans (hb5.mono HB3.out.size))
  have hlen := cellsTo_length x.gr.wide x.gr.high 64
  have hbl : b < w3.heap.size := hX3.lt
  have hb_ : w.heap.size ≤ b := hB1
  clear hL hown hb5 hX3 hR3'
  go_wp2_with fail
  go_loopw [13] (fun vj wr => RevRel x (fun j => (cellsTo x.gr.wide x.gr.high 64).take j) (cellsTo x.gr.wide x.gr.high 64).length w5 b vj wr) (fun vj _ => (cellsTo x.gr.wide x.gr.high 64).length - (intOf vj).toNat)
  case atStart => exact ⟨0, x.gr.h, x.gr.g, by omega, rfl, rfl, rfl, HX5.out, grown_refl _ _⟩
  case round =>
    obtain ⟨j, h', g', hj, rfl, hfh, hfg, hO, hgr⟩ := hrel
    have HGR := Lib.hid hgr
    have HFH := Lib.hid hfh
    have HFG := Lib.hid hfg
    have HO := Lib.hid hO
    clear hgr hfh hfg hO
    by_cases hlt : j < (cellsTo x.gr.wide x.gr.high 64).length
    · obtain ⟨c, hc⟩ : ∃ c, (cellsTo x.gr.wide x.gr.high 64)[j]? = some c := ⟨_, List.getElem?_eq_getElem hlt⟩
      have hc64 : c < 64 := cellsTo_lt (List.mem_of_getElem? hc)
      have hhas : hasB x.gr.wide x.gr.high c = true := by
        have := List.mem_of_getElem? hc
        unfold cellsTo at this
        exact (List.mem_filter.1 this).2
      have hj64 : j < 64 := by omega
      obtain ⟨gq, rfl, hq1, hq2, hq3⟩ := HL.out j c hc
      have hcell := cell_grown hq3 HGR.out (by omega)
      have HC := Lib.hid hc
      have HSH : Hid (fb (h' c) = fm x.gr.h c) := by
        show _ = _
        rw [← fm_of hc64, HFH.out]; exact updL_same (cells_nodup _ _ _) hc
      have HSG : Hid (fb (g' c) = fm x.gr.g c) := by
        show _ = _
        rw [← fm_of hc64, HFG.out]; exact updL_same (cells_nodup _ _ _) hc
      obtain ⟨r1, hr1, _⟩ := fsub_plain zero_plain (head_plain HOI.out hc64 hhas)
      obtain ⟨r2, hr2, _⟩ := fsub_plain zero_plain (gain_plain HOI.out hc64 hhas)
      have HP1 : Hid (fsub (fb 0) (fb (h' c)) = some r1) := by
        show _ = _
        rw [HSH.out, fb0]; exact hr1
      have HP2 : Hid (fsub (fb 0) (fb (g' c)) = some r2) := by
        show _ = _
        rw [HSG.out, fb0]; exact hr2
      have HR1 : Hid (fb r1 = neg0 (fm x.gr.h) c) := by show _ = _; unfold neg0; rw [show fm x.gr.h c = x.gr.m.h c from rfl, hr1]; exact fb_sub ((fsub_fb 0 (h' c)).symm.trans HP1.out)
      have HR2 : Hid (fb r2 = neg0 (fm x.gr.g) c) := by show _ = _; unfold neg0; rw [show fm x.gr.g c = x.gr.m.g c from rfl, hr2]; exact fb_sub ((fsub_fb 0 (g' c)).symm.trans HP2.out)
      have p1 : ∀ (w : World) (t : TypeId), Sem.run Try.prog (binOp .sub t (.float .f32 0) (.float .f32 (h' c))) w = .ok (.float .f32 r1) w := fun w t => run_arith_some w rfl HP1.out
      have p2 : ∀ (w : World) (t : TypeId), Sem.run Try.prog (binOp .sub t (.float .f32 0) (.float .f32 (g' c))) w = .ok (.float .f32 r2) w := fun w t => run_arith_some w rfl HP2.out
      have j1 : (j : Int) < ((cellsTo x.gr.wide x.gr.high 64).length : Int) := by omega
      have c1 : (c : Int) < 64 := by omega
      obtain ⟨q1, q2⟩ := hg_cells HO.out hc64
      have q3 := HO.out.free (130 + c)
      have q4 := HO.out.free (66 + c)
      have st1 : Sem.run Try.prog (store ⟨b, 130 + c, none⟩ (.float .f32 r1)) wr.drew = .ok () (wr.setCell ⟨b, 130 + c, none⟩ (.float .f32 r1)).drew := by
        rw [run_store Try.prog _ _ _ _ rfl, show wr.drew.cell? ⟨b, 130 + c, none⟩ = some (.float .f32 (h' c)) from q1, show wr.drew.frozen? ⟨b, 130 + c, none⟩ = false from q3]; rfl
      have HO2 : Blk (wr.setCell ⟨b, 130 + c, none⟩ (.float .f32 r1)).drew b (arrB (withHG x (upd h' c r1) g')) 36 := by
        rw [← arrB_setH x h' g' hc64]; exact (show Blk wr.drew b _ _ from HO.out).cell_same _ _
      have st2 : Sem.run Try.prog (store ⟨b, 66 + c, none⟩ (.float .f32 r2)) (wr.setCell ⟨b, 130 + c, none⟩ (.float .f32 r1)).drew = .ok () ((wr.setCell ⟨b, 130 + c, none⟩ (.float .f32 r1)).drew.setCell ⟨b, 66 + c, none⟩ (.float .f32 r2)) := by
        rw [run_store Try.prog _ _ _ _ rfl, (hg_cells HO2 hc64).2, HO2.free (66 + c)]; rfl
      have HO3 : Hid (Blk ((wr.setCell ⟨b, 130 + c, none⟩ (.float .f32 r1)).drew.setCell ⟨b, 66 + c, none⟩ (.float .f32 r2)) b (arrB (withHG x (upd h' c r1) (upd g' c r2))) 36) := by
        show Blk _ _ _ _
        rw [← arrB_setG x (upd h' c r1) g' hc64]; exact HO2.cell_same _ _
      have HG3 : Hid (w5.grownBy ((wr.setCell ⟨b, 130 + c, none⟩ (.float .f32 r1)).drew.setCell ⟨b, 66 + c, none⟩ (.float .f32 r2)) (some b)) :=
        grown_trans (w' := wr) HGR.out ⟨rfl, rfl, rfl, by simp [World.setCell], fun k _ hk => (heap_setCell_other _ _ k _ (fun e => hk (by rw [e]))).trans (heap_setCell_other _ _ k _ (fun e => hk (by rw [e])))⟩
      clear hq3 hc hr1 hr2 hhas HO2
      go_wp2_with fail
      go_big_region
      go_wp2_with fail
      go_roundw
      case rel =>
        refine ⟨j + 1, upd h' c r1, upd g' c r2, by omega, by go_num, ?_, ?_, HO3.out, HG3.out⟩
        · dsimp only
          rw [take_more HC.out, updL_snoc, fm_upd hc64, HFH.out, HR1.out]
        · dsimp only
          rw [take_more HC.out, updL_snoc, fm_upd hc64, HFG.out, HR2.out]
      case measure => simp [intOf]; omega
    · have hjn : j = (cellsTo x.gr.wide x.gr.high 64).length := by omega
      have j1 : ¬ (j : Int) < ((cellsTo x.gr.wide x.gr.high 64).length : Int) := by omega
      have HN : Hid ((withHG x h' g').n = revN x.n) := by
        show _ = _
        have t1 := HFH.out
        have t2 := HFG.out
        dsimp only at t1 t2
        rw [List.take_of_length_le (Nat.le_of_eq hjn.symm)] at t1 t2
        exact n_withHG t1 t2
      clear hjn
      have HBw := Lib.hid (below_grown HB5.out HGR.out HB5.out.size hb_)
      have hRw := HR5.out.grown HGR.out (by omega)
      cases hok : okB (revN x.n)
      · have HOKM := Lib.hid hok
        have HW : Hid (revR x.n = (B0.n, 4)) := by show _ = _; rw [HW0.out, hok]; rfl
        clear hok
        go_wp2_with ((with_reducible refine wpList_getB HO.out ?_ ?_); rfl)
        refine (ValidBrine_any (withHG x h' g') wr hr hx).mono ?_
        rw [HN.out, HOKM.out]
        rintro e w8 ⟨rfl, hb8⟩
        have hR8 := hRw.later hb8
        have hO8 := HO.out.later hb8
        have HB8 := Lib.hid (HBw.out.trans (hb8.mono HBw.out.size))
        clear hb8
        go_wp2_with (first | (with_reducible refine wpList_zero (zeroB _) ?_) | ((with_reducible refine wpList_putB (x := B0) hR8 ?_ ?_ ?_); rfl; rfl))
        intro w20 s20 b20 k20
        go_wp2_with fail
        refine ret_cell2 rfl rfl (loadB b20) rfl ⟨B0, by rw [HW.out]; rfl, by rw [HW.out], ?_⟩
        exact below_grown HB8.out k20 HB8.out.size hwR
      · have HOKM := Lib.hid hok
        have HW : Hid (revR x.n = (revN x.n, 0)) := by show _ = _; rw [HW0.out, hok]; rfl
        clear hok
        go_wp2_with ((with_reducible refine wpList_getB HO.out ?_ ?_); rfl)
        refine (ValidBrine_any (withHG x h' g') wr hr hx).mono ?_
        rw [HN.out, HOKM.out]
        rintro e w8 ⟨rfl, hb8⟩
        have hR8 := hRw.later hb8
        have hO8 := HO.out.later hb8
        have HB8 := Lib.hid (HBw.out.trans (hb8.mono HBw.out.size))
        clear hb8
        go_wp2_with (first | ((with_reducible refine wpList_getB hO8 ?_ ?_); rfl) | ((with_reducible refine wpList_putB (x := withHG x h' g') hR8 ?_ ?_ ?_); rfl; rfl))
        intro w20 s20 b20 k20
        go_wp2_with fail
        refine ret_cell2 rfl rfl (loadB b20) rfl ⟨withHG x h' g', by rw [HW.out]; rfl, by rw [HW.out]; exact HN.out, ?_⟩
        exact below_grown HB8.out k20 HB8.out.size hwR

set_option maxRecDepth 100000 in
set_option maxHeartbeats 3200000 in
theorem specReverseBrine_any (x : Br) (w : World) (hr : x.gr.Rng) (hx : x.gr.Fx) :
    Calls Try.prog 23 #[.agg (arrB x)] w (RetBC' (revR x.n) w) := by
  cases hok : okB x.n
  · have HW : Hid (revR x.n = (B0.n, 1)) := by show _ = _; unfold revR; rw [hok]; rfl
    have HOK := Lib.hid hok
    clear hok
    go_enter Try.func23, Try.ntmps23
    go_wp2_with (with_reducible refine wpList_box rfl ?_)
    intro b w1 hB1 hB2 hB3 hB4
    go_wp2_with (with_reducible refine wpList_new newB ?_)
    intro R w2 hR1 hR2 hR3 hR4
    have hX2 := hB3.later hR4
    have hbR : b < R := by have := hB4.size; omega
    have HB2 := Lib.hid (hB4.trans (hR4.mono hB4.size))
    have hwR : w.heap.size ≤ R := by have := hB4.size; omega
    clear hB3 hB4 hR4
    go_wp2_with fail
    refine (l05Ok_any b x w2 hr hx (BAt.of_blk hX2)).mono ?_
    rw [HOK.out]
    rintro e w3 ⟨rfl, hb3⟩
    have hX3 := hX2.later hb3
    have hR3' := hR3.later hb3
    have HB3 := Lib.hid (HB2.out.trans (hb3.mono HB2.out.size))
    clear hb3 hX2 hR3
    go_wp2_with (first | (with_reducible refine wpList_zero (zeroB _) ?_) | ((with_reducible refine wpList_putB (x := B0) hR3' ?_ ?_ ?_); rfl; rfl))
    intro w20 s20 b20 k20
    go_wp2_with fail
    refine ret_cell2 rfl rfl (loadB b20) rfl ⟨B0, by rw [HW.out]; rfl, by rw [HW.out], ?_⟩
    exact below_grown HB3.out k20 HB3.out.size hwR
  have HW0 : Hid (revR x.n = (if okB (revN x.n) then (revN x.n, 0) else (B0.n, 4))) := by show _ = _; unfold revR; rw [hok]; rfl
  have HOI : Hid (okI x.gr.m = true) := by
    have := hok
    unfold okB at this
    rw [Bool.and_eq_true] at this
    exact this.1
  have HOK := Lib.hid hok
  clear hok
  go_enter Try.func23, Try.ntmps23
  go_wp2_with (with_reducible refine wpList_box rfl ?_)
  intro b w1 hB1 hB2 hB3 hB4
  go_wp2_with (with_reducible refine wpList_new newB ?_)
  intro R w2 hR1 hR2 hR3 hR4
  have hX2 := hB3.later hR4
  have hbR : b < R := by have := hB4.size; omega
  have HB2 := Lib.hid (hB4.trans (hR4.mono hB4.size))
  have hwR : w.heap.size ≤ R := by have := hB4.size; omega
  clear hB3 hB4 hR4
  go_wp2_with fail
  refine (l05Ok_any b x w2 hr hx (BAt.of_blk hX2)).mono ?_
  rw [HOK.out]
  rintro e w3 ⟨rfl, hb3⟩
  have hX3 := hX2.later hb3
  have hR3' := hR3.later hb3
  have HB3 := Lib.hid (HB2.out.trans (hb3.mono HB2.out.size))
  clear hb3 hX2 hR3
  have HX3 := Lib.hid hX3
  have HR5 := Lib.hid hR3'
  have hbl : b < w3.heap.size := HX3.out.lt
  have hb_ : w.heap.size ≤ b := hB1
  clear hX3 hR3'
  go_wp2_with fail
  go_loopw [4] (fun vj wr => RevRel x (fun j => cellsTo x.gr.wide x.gr.high j) 64 w3 b vj wr) (fun vj _ => 64 - (intOf vj).toNat)
  case atStart => exact ⟨0, x.gr.h, x.gr.g, by omega, rfl, rfl, rfl, HX3.out, grown_refl _ _⟩
  case round =>
    obtain ⟨k, h', g', hk, rfl, hfh, hfg, hO, hgr⟩ := hrel
    have HGR := Lib.hid hgr
    have HFH := Lib.hid hfh
    have HFG := Lib.hid hfg
    have HO := Lib.hid hO
    have HGA : Hid (GAt wr b 0 { x.gr with h := h', g := g' }) := (BAt.of_blk hO).g
    clear hgr hfh hfg hO
    by_cases hlt : k < 64
    · have k1 : (k : Int) < 64 := by omega
      cases hh : hasB x.gr.wide x.gr.high k
      · have HH := Lib.hid hh
        clear hh
        go_wp2_with (go_at_call 43; refine (l01Is_any b 0 k { x.gr with h := h', g := g' } _ hlt hr HGA.out).mono ?_; rw [HH.out]; rintro e w' ⟨rfl, rfl⟩)
        go_roundw
        case rel => exact ⟨k + 1, h', g', by omega, by go_num, by dsimp only; rw [cellsTo_no HH.out]; exact HFH.out, by dsimp only; rw [cellsTo_no HH.out]; exact HFG.out, HO.out, HGR.out⟩
        case measure => simp [intOf]; omega
      · have HH := Lib.hid hh
        have HSH : Hid (fb (h' k) = fm x.gr.h k) := by
          show _ = _
          rw [← fm_of hlt, HFH.out]; exact updL_out cellsTo_out
        have HSG : Hid (fb (g' k) = fm x.gr.g k) := by
          show _ = _
          rw [← fm_of hlt, HFG.out]; exact updL_out cellsTo_out
        obtain ⟨q1, q2⟩ := hg_cells HO.out hlt
        clear hh q2
        go_wp2_with (first | (go_at_call 43; refine (l01Is_any b 0 k { x.gr with h := h', g := g' } _ hlt hr HGA.out).mono ?_; rw [HH.out]; rintro e w' ⟨rfl, rfl⟩) | ((with_reducible refine wpList_gate ?_); refine wpList_arith _ _ rfl rfl rfl ?_; intro r1 n1 hr1) | ((with_reducible refine wpList_gateS ?_); refine wpList_setBH (HO.out.drewN _) hlt rfl rfl ?_))
        intro w4 s4 b4 k4
        have HR1 : Hid (fb r1 = neg0 (fm x.gr.h) k) := by show _ = _; rw [hr1.out, fop, HSH.out, fb0]; rfl
        have HG4 := Lib.hid (grown_trans (grown_trans HGR.out (grown_drewN _ _ _)) k4)
        have H4 := Lib.hid b4
        obtain ⟨q3, q2⟩ := hg_cells H4.out hlt
        clear q1 q3 b4 k4 s4 hr1
        go_wp2_with (first | ((with_reducible refine wpList_gate ?_); refine wpList_arith _ _ rfl rfl rfl ?_; intro r2 n2 hr2) | ((with_reducible refine wpList_gateS ?_); refine wpList_setBG (H4.out.drewN _) hlt rfl rfl ?_))
        intro w5 s5 b5 k5
        have HR2 : Hid (fb r2 = neg0 (fm x.gr.g) k) := by show _ = _; rw [hr2.out, fop, HSG.out, fb0]; rfl
        have HG5 := Lib.hid (grown_trans (grown_trans HG4.out (grown_drewN _ _ _)) k5)
        have H5 := Lib.hid b5
        clear q2 b5 k5 s5 hr2
        go_wp2_with fail
        go_roundw
        case rel =>
          refine ⟨k + 1, upd h' k r1, upd g' k r2, by omega, by go_num, ?_, ?_, H5.out, HG5.out⟩
          · dsimp only
            rw [cellsTo_yes HH.out, updL_snoc, fm_upd hlt, HFH.out, HR1.out]
          · dsimp only
            rw [cellsTo_yes HH.out, updL_snoc, fm_upd hlt, HFG.out, HR2.out]
        case measure => simp [intOf]; omega
    · obtain rfl : k = 64 := by omega
      have HN : Hid ((withHG x h' g').n = revN x.n) := n_withHG HFH.out HFG.out
      have HBw := Lib.hid (below_grown HB3.out HGR.out HB3.out.size hb_)
      have hRw := HR5.out.grown HGR.out (by omega)
      cases hok : okB (revN x.n)
      · have HOKM := Lib.hid hok
        have HW : Hid (revR x.n = (B0.n, 4)) := by show _ = _; rw [HW0.out, hok]; rfl
        clear hok
        go_wp2_with fail
        refine (l05Ok_any b (withHG x h' g') wr hr hx (BAt.of_blk HO.out)).mono ?_
        rw [HN.out, HOKM.out]
        rintro e w8 ⟨rfl, hb8⟩
        have hR8 := hRw.later hb8
        have hO8 := HO.out.later hb8
        have HB8 := Lib.hid (HBw.out.trans (hb8.mono HBw.out.size))
        clear hb8
        go_wp2_with (first | (with_reducible refine wpList_zero (zeroB _) ?_) | ((with_reducible refine wpList_putB (x := B0) hR8 ?_ ?_ ?_); rfl; rfl))
        intro w20 s20 b20 k20
        go_wp2_with fail
        refine ret_cell2 rfl rfl (loadB b20) rfl ⟨B0, by rw [HW.out]; rfl, by rw [HW.out], ?_⟩
        exact below_grown HB8.out k20 HB8.out.size hwR
      · have HOKM := Lib.hid hok
        have HW : Hid (revR x.n = (revN x.n, 0)) := by show _ = _; rw [HW0.out, hok]; rfl
        clear hok
        go_wp2_with fail
        refine (l05Ok_any b (withHG x h' g') wr hr hx (BAt.of_blk HO.out)).mono ?_
        rw [HN.out, HOKM.out]
        rintro e w8 ⟨rfl, hb8⟩
        have hR8 := hRw.later hb8
        have hO8 := HO.out.later hb8
        have HB8 := Lib.hid (HBw.out.trans (hb8.mono HBw.out.size))
        clear hb8
        go_wp2_with (first | ((with_reducible refine wpList_getB hO8 ?_ ?_); rfl) | ((with_reducible refine wpList_putB (x := withHG x h' g') hR8 ?_ ?_ ?_); rfl; rfl))
        intro w20 s20 b20 k20
        go_wp2_with fail
        refine ret_cell2 rfl rfl (loadB b20) rfl ⟨withHG x h' g', by rw [HW.out]; rfl, by rw [HW.out]; exact HN.out, ?_⟩
        exact below_grown HB8.out k20 HB8.out.size hwR

end Go.Proofs.Ytfddjbpfahjleaa
