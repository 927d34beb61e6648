/- Changes between two grounds; a ground that is pumped: both sides. -/
import Derived.Test.YtfcphfdfpjmgiaaSettle
import Derived.Test.YtfcphfdfpjmgiaaWithin
import Derived.Test.YtfcphfdfpjmgiaaAsk
import Derived.Test.YtfcphfdfpjmgiaaFin
import Derived.Test.YtfcphfdfpjmgiaaUpd
import Derived.Test.YtfcphfdfpjmgiaaChain
namespace Go.Proofs.Ytfcphfdfpjmgiaa
open Go.RowKit

/-- The changes of all heads. -/
def chP (a b : M) (c : Nat) : F := fsub (b.h c) (a.h c)
def chG (a b : M) : Nat → F := updL (fm fun _ => 0) (chP a b) (cellsTo a.wide a.high 64)
def RetFV (f : Nat → F) (v : Value) (w : World) (e : Ending) (w' : World) : Prop := ∃ f', e = .returned (.tuple #[.agg (arrF f'), v]) ∧ fm f' = f ∧ Below w.heap.size w w'
def FldRel (d : Nat → F) (f : Nat → List Nat) (most : Nat) (w : World) (O : Nat) (v : Value) (wr : World) : Prop :=
  ∃ (j : Nat) (f' : Nat → Nat), j ≤ most ∧ v = .int .i64 j ∧ fm f' = updL (fm fun _ => 0) d (f j) ∧ Blk wr O (arrF f') 27 ∧ w.grownBy wr (some O)
theorem chP_fin {a b : M} (ha : okI a = true) (hb : okI b = true) (hW : b.wide = a.wide) (hH : b.high = a.high) {c : Nat} (hc : c < 64) (hh : hasB a.wide a.high c = true) : fin (chP a b c) = true :=
  fin_le (fsub_le (plain_le (head_plain hb hc (by rw [hW, hH]; exact hh))) (plain_le (head_plain ha hc hh)) (Int.le_refl _) (Int.le_refl _) (by omega))
theorem cells_have {W H : Int} {k c : Nat} (h : c ∈ cellsTo W H k) : hasB W H c = true := by
  unfold cellsTo at h; exact (List.mem_filter.1 h).2
theorem ret_fc {fn : Func} {a : Act} {w : World} {R : Ending → World → Prop} {p q u : Tmp} {B C : Nat} {cs ds : Array Value} {T T' : TypeId} (h : fn.results = #[.cell p T, .cell q T', .tmp u]) (hp : a.tmps.getD p undef = .pointer (some ⟨B, 0, none⟩)) (hq : a.tmps.getD q undef = .pointer (some ⟨C, 0, none⟩))
    (hl : (loadVar T ⟨B, 0, none⟩).run Try.prog w = .ok (.agg cs) w) (hl' : (loadVar T' ⟨C, 0, none⟩).run Try.prog w = .ok (.agg ds) w) (hd : a.defers = [])
    (hR : R (.returned (.tuple #[.agg cs, .agg ds, a.tmps.getD u undef])) w) : bodyPost Try.prog fn R .ret a w := by
  refine bodyPost_ret (v := .tuple #[.agg cs, .agg ds, a.tmps.getD u undef]) ?_ hd hR
  simp only [results, h]
  simp only [Array.getD_eq_getD_getElem?] at hp hq
  simp [hp, hq, asAddr, hl, hl']
section
variable {ops : Array Oper} {Q : Exit → Act → World → Prop} {rest : List Oper} {a : Act} {w : World} {dst : Option Tmp} {ty : TypeId} {X : Operand} {pos : String} {after : Array Edge} {B : Nat} {t : TypeId} {gd : Option (Nat × Bool)}
theorem wpList_getGgd {x : G} (hgd : Region.wanted ⟨dst, .load 30 X, ty, pos, after, gd⟩ (yielded ops a.tmps) = true) (hg : Blk w B (arrG x) t) (hx : a.eval X = .pointer (some ⟨B, 0, none⟩))
    (h : wpList Try.prog ops Q rest (a.put dst (.agg (arrG x))) w) : wpList Try.prog ops Q (⟨dst, .load 30 X, ty, pos, after, gd⟩ :: rest) a w := by
  refine wpList_step fun K hK => ?_
  rw [if_pos hgd]
  unfold Oper.wp
  have hl := loadG hg
  have : (execOp a.eval ⟨dst, .load 30 X, ty, pos, after, gd⟩).run Try.prog w = .ok (.value (.agg (arrG x))) w := by
    simp only [execOp, hx, Instr.loadAt, Instr.sureAddr]
    simp [hl]
  rw [this]
  exact hK _ _ h
theorem wpList_getFgd {x : Nat → Nat} (hgd : Region.wanted ⟨dst, .load 27 X, ty, pos, after, gd⟩ (yielded ops a.tmps) = true) (hg : Blk w B (arrF x) t) (hx : a.eval X = .pointer (some ⟨B, 0, none⟩))
    (h : wpList Try.prog ops Q rest (a.put dst (.agg (arrF x))) w) : wpList Try.prog ops Q (⟨dst, .load 27 X, ty, pos, after, gd⟩ :: rest) a w := by
  refine wpList_step fun K hK => ?_
  rw [if_pos hgd]
  unfold Oper.wp
  have hl := loadF hg
  have : (execOp a.eval ⟨dst, .load 27 X, ty, pos, after, gd⟩).run Try.prog w = .ok (.value (.agg (arrF x))) w := by
    simp only [execOp, hx, Instr.loadAt, Instr.sureAddr]
    simp [hl]
  rw [this]
  exact hK _ _ h
end
theorem h_cell {w : World} {b o : Nat} {g : G} (h : GAt w b o g) {k : Nat} (hk : k < 64) : w.cell? ⟨b, o + (130 + k), none⟩ = some (.float .f32 (g.h k)) := by
  have h1 := h (130 + k) (by omega)
  unfold G.cell at h1
  rw [if_neg (by omega), if_neg (by omega), if_neg (by omega), if_neg (by omega), if_pos (by omega), Nat.add_sub_cancel_left] at h1
  exact h1
theorem g_cell {w : World} {b : Nat} {g : G} (h : GAt w b 0 g) {k : Nat} (hk : k < 64) : w.cell? ⟨b, 66 + k, none⟩ = some (.float .f32 (g.g k)) := by
  have h1 := h (66 + k) (by omega)
  rw [Nat.zero_add] at h1
  unfold G.cell at h1
  rw [if_neg (by omega), if_neg (by omega), if_neg (by omega), if_pos (by omega), Nat.add_sub_cancel_left] at h1
  exact h1
theorem h_cell0 {w : World} {b : Nat} {g : G} (h : GAt w b 0 g) {k : Nat} (hk : k < 64) : w.cell? ⟨b, 130 + k, none⟩ = some (.float .f32 (g.h k)) := by
  have := h_cell h hk; rwa [Nat.zero_add] at this
theorem wh_cell {w : World} {b : Nat} {g : G} (h : GAt w b 0 g) : w.cell? ⟨b, 0, none⟩ = some (.int .i8 g.wide) ∧ w.cell? ⟨b, 1, none⟩ = some (.int .i8 g.high) := ⟨h 0 (by omega), h 1 (by omega)⟩

set_option maxRecDepth 100000 in
set_option maxHeartbeats 3200000 in
theorem ChangesBetween_any (g h : G) (w : World) (hr : g.Rng) (hr' : h.Rng) (hok : okI g.m = true) (hok' : okI h.m = true) (hW : h.wide = g.wide) (hH : h.high = g.high) :
    Calls Try.prog 20 #[.agg (arrG g), .agg (arrG h)] w (RetFV (chG g.m h.m) (.int .i64 0) w) := by
  have HOK := Lib.hid hok
  have HOK' := Lib.hid hok'
  have HW := Lib.hid hW
  have HH := Lib.hid hH
  clear hok hok' hW hH
  go_enter Try.func20, Try.ntmps20
  go_wp2_with (with_reducible refine wpList_box rfl ?_)
  intro b w0 hB1 hB2 hB3 hB4
  go_wp2_with (with_reducible refine wpList_box rfl ?_)
  intro c w1 hC1 hC2 hC3 hC4
  go_wp2_with (with_reducible refine wpList_new newF ?_)
  intro R w2 hR1 hR2 hR3 hR4
  have hX2 := (hB3.later hC4).later hR4
  have hY2 := hC3.later hR4
  have hbc : b < c := by omega
  have hcR : c < R := by omega
  have HB2 := Lib.hid (below_thru (below_thru hB4 hC4) hR4)
  have hwR : w.heap.size ≤ R := by omega
  clear hB3 hB4 hC3 hC4 hR4
  go_wp2_with ((with_reducible refine wpList_getG hX2 ?_ ?_); rfl)
  refine (ValidGround_any g w2 hr).mono ?_
  rw [HOK.out]
  rintro e w3 ⟨rfl, hb3⟩
  have hX3 := hX2.later hb3
  have hY3 := hY2.later hb3
  have hR3' := hR3.later hb3
  have HB3 := Lib.hid (below_thru HB2.out hb3)
  clear hb3 hX2 hY2 hR3
  go_wp2_with ((with_reducible refine wpList_getGgd ?_ hY3 ?_ ?_); (exact rfl); rfl)
  refine (ValidGround_any h w3 hr').mono ?_
  rw [HOK'.out]
  rintro e w4 ⟨rfl, hb4⟩
  have hX4 := hX3.later hb4
  have hY4 := hY3.later hb4
  have hR4 := hR3'.later hb4
  have HB4 := Lib.hid (below_thru HB3.out hb4)
  obtain ⟨qx0, qx1⟩ := wh_cell (GAt.of_blk hX4)
  obtain ⟨qy0, qy1⟩ := wh_cell (GAt.of_blk hY4)
  rw [HW.out] at qy0
  rw [HH.out] at qy1
  clear hb4 hX3 hY3 hR3'
  go_wp2_with (first | (with_reducible refine wpList_zero (zeroF _) ?_) | (with_reducible refine wpList_new newF ?_))
  intro O w5 hO1 hO2 hO3 hO4
  have hX5 := hX4.later hO4
  have hY5 := hY4.later hO4
  have hR5 := hR4.later hO4
  have HB5 := Lib.hid (below_thru HB4.out hO4)
  have hRl := hR4.lt
  have hYl := hY4.lt
  have hsz := HB4.out.size
  clear hO4 qx0 qx1 qy0 qy1
  go_wp2_with ((with_reducible refine wpList_putF (f := fun _ => 0) hO3 ?_ ?_ ?_); rfl; rfl)
  intro w6 s6 b6 k6
  have hX6 := hX5.grown k6 (by omega)
  have hY6 := hY5.grown k6 (by omega)
  have hR6 := hR5.grown k6 (by omega)
  have HB6 := Lib.hid (below_grown HB5.out k6 HB5.out.size (by omega))
  clear hX5 hY5 hR5 hO3 hX4 hY4 hR4 k6 s6
  go_wp2_with fail
  refine (cells_any b 0 g w6 hr (GAt.of_blk hX6)).mono ?_
  rintro e w7 ⟨v, rfl, hown, hb7⟩
  obtain ⟨aL, cap, rfl, hL⟩ := list_form hown
  have HL := Lib.hid hL
  have HX7 := Lib.hid (GAt.of_blk (hX6.later hb7))
  have HY7 := Lib.hid (GAt.of_blk (hY6.later hb7))
  have HR7 := Lib.hid (hR6.later hb7)
  have HO7 := Lib.hid (b6.later hb7)
  have HB7 := Lib.hid (below_thru HB6.out hb7)
  have hlen := cellsTo_length g.wide g.high 64
  have hOl : O < w6.heap.size := b6.lt
  have hwO : w.heap.size ≤ O := by omega
  clear hL hown hb7 hX6 hY6 hR6 b6
  go_wp2_with fail
  go_loopw [36] (fun vj wr => FldRel (chP g.m h.m) (fun j => (cellsTo g.wide g.high 64).take j) (cellsTo g.wide g.high 64).length w7 O vj wr) (fun vj _ => (cellsTo g.wide g.high 64).length - (intOf vj).toNat)
  case atStart => exact ⟨0, fun _ => 0, by omega, rfl, rfl, HO7.out, grown_refl _ _⟩
  case round =>
    obtain ⟨j, f', hj, rfl, hfs, hO, hgr⟩ := hrel
    have HGR := Lib.hid hgr
    have HFS := Lib.hid hfs
    have HO := Lib.hid hO
    have HX := Lib.hid (HX7.out.grown hgr (by omega))
    have HY := Lib.hid (HY7.out.grown hgr (by omega))
    clear hgr hfs hO
    by_cases hlt : j < (cellsTo g.wide g.high 64).length
    · obtain ⟨d, hd⟩ : ∃ d, (cellsTo g.wide g.high 64)[j]? = some d := ⟨_, List.getElem?_eq_getElem hlt⟩
      have hc64 : d < 64 := cellsTo_lt (List.mem_of_getElem? hd)
      have HHAS := Lib.hid (cells_have (List.mem_of_getElem? hd))
      have hj64 : j < 64 := by omega
      obtain ⟨gq, rfl, hq1, hq2, hq3⟩ := HL.out j d hd
      have hcell := cell_grown hq3 HGR.out (by omega)
      have HC := Lib.hid hd
      have j1 : (j : Int) < ((cellsTo g.wide g.high 64).length : Int) := by omega
      have c1 : (d : Int) < 64 := by omega
      clear hq3 hd
      go_wp2_with fail
      have q1 := fun zz => ext_cell wr zz (h_cell0 HX.out hc64)
      have q2 := fun zz => ext_cell wr zz (h_cell0 HY.out hc64)
      refine wp_soft_tail 11 (SF (some 0)) (by kernel_rfl) (by kernel_rfl) ?_
      simp only [List.take_succ_cons, List.take_zero, List.drop_succ_cons, List.drop_zero]
      repeat (first | (refine soft_arith (fun _ n h => h.drewN n) _ _ rfl rfl rfl ?_; intro r8 hr8) | (refine soft_step (fun K hK => ?_); go_simp; (try go_bits); refine hK _ ?_; clear hK K))
      refine soft_nil ?_
      rintro w5 hw5
      have HG5 := Lib.hid (grown_trans HGR.out (grown_below hw5.below))
      have hO5 := HO.out.later hw5.below
      have HV : Hid (fb r8 = chP g.m h.m d) := by
        show fb r8 = fsub (fm h.h d) (fm g.h d)
        rw [hr8.out, fop, fm_of hc64, fm_of hc64]
      clear hw5 q1 q2 hr8
      go_wp2_with ((with_reducible refine wpList_gateS ?_); refine wpList_setF hO5 hc64 rfl rfl ?_)
      intro w10 s7 b7 k7
      have H7 := Lib.hid b7
      have HG7 := Lib.hid (grown_trans HG5.out k7)
      clear b7 k7 hO5
      have q3 : w10.cell? ⟨O, d, none⟩ = some (.float .f32 r8) := by
        rw [cell_of_row w10 O d _ _ _ H7.out, arrF_get _ hc64]; simp [upd]
      go_wp2_with fail
      refine (finite_any r8 (chP g.m h.m d) w10 HV.out).mono ?_
      rw [chP_fin HOK.out HOK'.out HW.out HH.out hc64 HHAS.out]
      rintro e w9 ⟨rfl, hb9⟩
      have H9 := Lib.hid (H7.out.later hb9)
      have HG9 := Lib.hid (grown_trans HG7.out (grown_below hb9))
      clear hb9 q3
      go_wp2_with fail
      go_roundw
      case rel =>
        refine ⟨j + 1, upd f' d r8, by omega, by go_num, ?_, H9.out, HG9.out⟩
        dsimp only
        rw [take_more HC.out, updL_snoc, fm_upd hc64, HFS.out, HV.out]
      case measure => simp [intOf]; omega
    · have hjn : j = (cellsTo g.wide g.high 64).length := by omega
      have j1 : ¬ (j : Int) < ((cellsTo g.wide g.high 64).length : Int) := by omega
      have HN : Hid (fm f' = chG g.m h.m) := by
        show _ = _
        have := HFS.out
        dsimp only at this
        rw [List.take_of_length_le (Nat.le_of_eq hjn.symm)] at this
        exact this
      have hRw := HR7.out.grown HGR.out (by omega)
      have HBw := Lib.hid (below_grown HB7.out HGR.out HB7.out.size hwO)
      clear hjn
      go_wp2_with (first | ((with_reducible refine wpList_getF HO.out ?_ ?_); rfl) | ((with_reducible refine wpList_putF (f := f') hRw ?_ ?_ ?_); rfl; rfl))
      intro w20 s20 b20 k20
      go_wp2_with fail
      refine ret_cell2 rfl rfl (loadF b20) rfl ⟨f', rfl, HN.out, ?_⟩
      exact below_grown HBw.out k20 HBw.out.size hwR

set_option maxRecDepth 100000 in
set_option maxHeartbeats 3200000 in
theorem l02Changes_any (b c : Nat) (tb tc : TypeId) (g h : G) (w : World) (hr : g.Rng) (hX : Blk w b (arrG g) tb) (hY : Blk w c (arrG h) tc) (hW : h.wide = g.wide) (hH : h.high = g.high) :
    Calls Try.prog 171 #[.pointer (some ⟨b, 0, none⟩), .pointer (some ⟨c, 0, none⟩)] w (RetFV (chG g.m h.m) (.bool true) w) := by
  have HW := Lib.hid hW
  have HH := Lib.hid hH
  clear hW hH
  have hbl := hX.lt
  have hcl := hY.lt
  go_enter Try.func171, Try.ntmps171
  go_wp2_with (with_reducible refine wpList_new newF ?_)
  intro R w2 hR1 hR2 hR3 hR4
  go_wp2_with (first | (with_reducible refine wpList_zero (zeroF _) ?_) | (with_reducible refine wpList_new newF ?_))
  intro O w5 hO1 hO2 hO3 hO4
  have hX5 := (hX.later hR4).later hO4
  have hY5 := (hY.later hR4).later hO4
  have hR5 := hR3.later hO4
  have HB5 := Lib.hid (below_thru hR4 hO4)
  have hwO : w.heap.size ≤ O := by omega
  clear hO4 hR4 hX hY hR3
  go_wp2_with ((with_reducible refine wpList_putF (f := fun _ => 0) hO3 ?_ ?_ ?_); rfl; rfl)
  intro w6 s6 b6 k6
  have HX6 := Lib.hid (GAt.of_blk (hX5.grown k6 (by omega)))
  have HY6 := Lib.hid (GAt.of_blk (hY5.grown k6 (by omega)))
  have HR6 := Lib.hid (hR5.grown k6 (by omega))
  have HB6 := Lib.hid (below_grown HB5.out k6 HB5.out.size hwO)
  have HO6 := Lib.hid b6
  have hOl : O < w6.heap.size := b6.lt
  obtain ⟨qx0, qx1⟩ := wh_cell HX6.out
  obtain ⟨qy0, qy1⟩ := wh_cell HY6.out
  rw [HW.out] at qy0
  rw [HH.out] at qy1
  clear hX5 hY5 hR5 hO3 k6 s6 b6
  go_wp2_with fail
  go_quiet (fail)
  go_wp2_with fail
  clear qx0 qx1 qy0 qy1
  go_loopw [7] (fun vj wr => FldRel (chP g.m h.m) (fun j => cellsTo g.wide g.high j) 64 w6 O vj wr) (fun vj _ => 64 - (intOf vj).toNat)
  case atStart => exact ⟨0, fun _ => 0, by omega, rfl, rfl, HO6.out.drewN _, grown_drewN _ _ _⟩
  case round =>
    obtain ⟨k, f', hk, rfl, hfs, hO, hgr⟩ := hrel
    have HGR := Lib.hid hgr
    have HFS := Lib.hid hfs
    have HO := Lib.hid hO
    have HX := Lib.hid (HX6.out.grown hgr (by omega))
    have HY := Lib.hid (HY6.out.grown hgr (by omega))
    clear hgr hfs hO
    by_cases hlt : k < 64
    · have k1 : (k : Int) < 64 := by omega
      cases hh : hasB g.wide g.high k
      · have HHB := Lib.hid hh
        clear hh
        go_wp2_with (go_at_call 111; refine (l01Is_any b 0 k g _ hlt hr HX.out).mono ?_; rw [HHB.out]; rintro e w' ⟨rfl, rfl⟩)
        go_roundw
        case rel => exact ⟨k + 1, f', by omega, by go_num, by dsimp only; rw [cellsTo_no HHB.out]; exact HFS.out, HO.out, HGR.out⟩
        case measure => simp [intOf]; omega
      · have HHB := Lib.hid hh
        clear hh
        go_wp2_with (go_at_call 111; refine (l01Is_any b 0 k g _ hlt hr HX.out).mono ?_; rw [HHB.out]; rintro e w' ⟨rfl, rfl⟩)
        have q1 := fun zz => ext_cell wr zz (h_cell0 HX.out hlt)
        have q2 := fun zz => ext_cell wr zz (h_cell0 HY.out hlt)
        refine wp_soft_tail 15 (SF (some 0)) (by kernel_rfl) (by kernel_rfl) ?_
        simp only [List.take_succ_cons, List.take_zero, List.drop_succ_cons, List.drop_zero]
        repeat (first | (refine soft_arith (fun _ n h => h.drewN n) _ _ rfl rfl rfl ?_; intro r8 hr8) | (refine soft_step (fun K hK => ?_); go_simp; (try go_bits); refine hK _ ?_; clear hK K))
        refine soft_nil ?_
        rintro w5 hw5
        have HG5 := Lib.hid (grown_trans HGR.out (grown_below hw5.below))
        have hO5 := HO.out.later hw5.below
        have HV : Hid (fb r8 = chP g.m h.m k) := by
          show fb r8 = fsub (fm h.h k) (fm g.h k)
          rw [hr8.out, fop, fm_of hlt, fm_of hlt]
        clear hw5 q1 q2 hr8
        go_wp2_with ((with_reducible refine wpList_gateS ?_); refine wpList_setF hO5 hlt rfl rfl ?_)
        intro w7 s7 b7 k7
        have H7 := Lib.hid b7
        have HG7 := Lib.hid (grown_trans HG5.out k7)
        clear b7 k7 hO5
        go_wp2_with fail
        go_roundw
        case rel =>
          refine ⟨k + 1, upd f' k r8, by omega, by go_num, ?_, H7.out, HG7.out⟩
          dsimp only
          rw [cellsTo_yes HHB.out, updL_snoc, fm_upd hlt, HFS.out, HV.out]
        case measure => simp [intOf]; omega
    · obtain rfl : k = 64 := by omega
      have HN : Hid (fm f' = chG g.m h.m) := HFS.out
      have hRw := HR6.out.grown HGR.out (by omega)
      have HBw := Lib.hid (below_grown HB6.out HGR.out HB6.out.size hwO)
      go_wp2_with (first | ((with_reducible refine wpList_getF HO.out ?_ ?_); rfl) | ((with_reducible refine wpList_putF (f := f') hRw ?_ ?_ ?_); rfl; rfl))
      intro w20 s20 b20 k20
      go_wp2_with fail
      refine ret_cell2 rfl rfl (loadF b20) rfl ⟨f', rfl, HN.out, ?_⟩
      exact below_grown HBw.out k20 HBw.out.size hR1

/-! A ground whose gain is changed at a cell. -/
theorem cell_setGn (g : G) {k : Nat} (hk : k < 64) (r i : Nat) : G.cell { g with g := upd g.g k r } i = if i = 66 + k then .float .f32 r else g.cell i := by
  unfold G.cell upd
  by_cases h1 : i < 130 ∧ 66 ≤ i
  · obtain ⟨p1, p2⟩ := h1
    have n0 : ¬ i = 0 := by omega
    have n1 : ¬ i = 1 := by omega
    have n2 : ¬ i < 66 := by omega
    simp only [n0, n1, n2, p1, if_false, if_true]
    by_cases e : i = 66 + k
    · rw [if_pos e, if_pos (by omega)]
    · rw [if_neg e, if_neg (by omega)]
  · rw [if_neg (by omega : ¬ i = 66 + k)]
    repeat' (first | (exfalso; omega) | split | rfl)
theorem arrG_setGn (g : G) {k : Nat} (hk : k < 64) (r : Nat) : (arrG g).setIfInBounds (66 + k) (.float .f32 r) = arrG { g with g := upd g.g k r } := by
  apply Array.ext_getElem?
  intro i
  rw [Array.getElem?_setIfInBounds]
  by_cases h : i < 195
  · rw [arrG_get _ h, arrG_get _ h, cell_setGn g hk, arrG_size]
    by_cases e : 66 + k = i
    · rw [if_pos e, if_pos (by omega), if_pos e.symm]
    · rw [if_neg e, if_neg (by omega)]
  · rw [if_neg (by omega), Array.getElem?_eq_none (by rw [arrG_size]; omega), Array.getElem?_eq_none (by rw [arrG_size]; omega)]
section
variable {ops : Array Oper} {Q : Exit → Act → World → Prop} {rest : List Oper} {a : Act} {w : World} {dst : Option Tmp} {ty : TypeId} {X Y : Operand} {pos : String} {after : Array Edge} {B : Nat} {t : TypeId}
theorem wpList_setGn {g : G} {k r : Nat} (hg : Blk w B (arrG g) t) (hk : k < 64) (hx : a.eval X = .pointer (some ⟨B, 66 + k, none⟩)) (hy : a.eval Y = .float .f32 r)
    (h : ∀ w', w'.heap.size = w.heap.size → Blk w' B (arrG { g with g := upd g.g k r }) t → w.grownBy w' (some B) → wpList Try.prog ops Q rest (a.put dst undef) w') : wpList Try.prog ops Q (⟨dst, .store 25 X Y, ty, pos, after, none⟩ :: rest) a w :=
  wpList_put1 size32 hg (by rw [arrG_size]; omega) hx hy rfl rfl (by rw [arrG_setGn g hk]; exact h)
end
def pumpG (m : M) (k : Nat) (r : F) : M := { m with g := upd m.g k (fsub (m.g k) r) }
theorem fieldTo_upd {W H : Int} {right : F → Bool} {f : Nat → F} {k : Nat} (v : F) (hf : fieldTo W H right f 64 = true) (hk : k < 64) (hh : hasB W H k = true) : fieldTo W H right (upd f k v) 64 = right v := by
  unfold fieldTo at hf ⊢
  cases hv : right v
  · rw [List.all_eq_false]
    refine ⟨k, List.mem_range.2 hk, ?_⟩
    rw [hh]; simp [upd, hv]
  · rw [List.all_eq_true]
    intro i hi
    by_cases e : i = k
    · subst e; rw [hh]; simp [upd, hv]
    · have := List.all_eq_true.1 hf i hi
      simpa [upd, e] using this
theorem pump_ok {m : M} {k : Nat} (r : F) (h : okI m = true) (hk : k < 64) (hh : hasB m.wide m.high k = true) : okI (pumpG m k r) = plain (fsub (m.g k) r) := by
  have h2 := h
  unfold okI fieldsI at h2
  simp only [Bool.and_eq_true] at h2
  obtain ⟨⟨h3, ⟨h4, h5⟩, h6⟩, h7⟩ := h2
  have e1 : sized (pumpG m k r) = sized m := rfl
  have e2 : fixedOk (pumpG m k r) = fixedOk m := rfl
  unfold okI fieldsI
  rw [e2, h7]
  have e3 : fieldTo (pumpG m k r).wide (pumpG m k r).high plain (pumpG m k r).g 64 = plain (fsub (m.g k) r) := fieldTo_upd _ h5 hk hh
  rw [e3, show fieldTo (pumpG m k r).wide (pumpG m k r).high amount (pumpG m k r).c 64 = true from h4, show fieldTo (pumpG m k r).wide (pumpG m k r).high plain (pumpG m k r).h 64 = true from h6,
    show decide (sized (pumpG m k r)) = true from h3]
  simp
theorem swp_dims (m : M) : ∀ l : List Nat, (swp m l).wide = m.wide ∧ (swp m l).high = m.high := by
  intro l
  unfold swp
  suffices ∀ (l : List Nat) (m' : M), (l.foldl (fun m c => setH m c (head m c)) m').wide = m'.wide ∧ (l.foldl (fun m c => setH m c (head m c)) m').high = m'.high from this l m
  intro l
  induction l with
  | nil => intro m'; exact ⟨rfl, rfl⟩
  | cons c l ih => intro m'; exact ih (setH m' c (head m' c))
theorem setl_ok (x : F) : ∀ (r n : Nat) (m : M), (setl x r n m).2.2 = 0 → okI (setl x r n m).1 = true ∧ (setl x r n m).1.wide = m.wide ∧ (setl x r n m).1.high = m.high
  | 0, _, _, h => by exact absurd h (by show ¬ ((7 : Int) = 0); decide)
  | r + 1, n, m, h => by
    cases ho : okI (swp m (cellsM m))
    · rw [setl_bad ho] at h; exact absurd h (by show ¬ ((4 : Int) = 0); decide)
    · cases hl : fle (chg m (swp m (cellsM m))) x
      · rw [setl_more ho hl] at h ⊢
        obtain ⟨h1, h2, h3⟩ := setl_ok x r (n + 1) _ h
        exact ⟨h1, h2.trans (swp_dims m _).1, h3.trans (swp_dims m _).2⟩
      · rw [setl_end ho hl]
        exact ⟨ho, (swp_dims m _).1, (swp_dims m _).2⟩
def zeroN : Nat → F := fm fun _ => 0
def pumpR (m : M) (z : Int) (r x : F) (most : Int) : M × (Nat → F) × Int :=
  if askC m z = 0 then
    (if plain r && (amount x && (decide (0 ≤ most) && decide (most ≤ 2000))) then
      (if plain (fsub (m.g z.toNat) r) then
        (if (setl x most.toNat 0 (pumpG m z.toNat r)).2.2 = 0 then ((setl x most.toNat 0 (pumpG m z.toNat r)).1, chG m (setl x most.toNat 0 (pumpG m z.toNat r)).1, 0) else (G0.m, zeroN, (setl x most.toNat 0 (pumpG m z.toNat r)).2.2))
      else (G0.m, zeroN, 4))
    else (G0.m, zeroN, 2))
  else (G0.m, zeroN, askC m z)
theorem askC_zero {m : M} {z : Int} (h : askC m z = 0) : okI m = true ∧ ∃ k : Nat, z = k ∧ k < 64 ∧ hasB m.wide m.high k = true := by
  unfold askC at h
  split at h
  · rename_i ho
    split at h
    · rename_i hb
      rw [Bool.and_eq_true] at hb
      obtain ⟨h1, h2⟩ := hb
      have h1 := of_decide_eq_true h1
      exact ⟨ho, z.toNat, by omega, by omega, h2⟩
    · exact absurd h (by decide)
  · exact absurd h (by decide)
/-- A ground, a field and a code are handed back. -/
def RetGFC (t : M × (Nat → F) × Int) (w : World) (e : Ending) (w' : World) : Prop :=
  ∃ gg f', e = .returned (.tuple #[.agg (arrG gg), .agg (arrF f'), .int .i64 t.2.2]) ∧ gg.m = t.1 ∧ fm f' = t.2.1 ∧ Below w.heap.size w w'

set_option maxRecDepth 100000 in
set_option maxHeartbeats 6400000 in
theorem PumpAt_any (g : G) (z : Int) (rr x : Nat) (most : Int) (w : World) (hr : g.Rng) (hx : g.Fx) :
    Calls Try.prog 87 #[.agg (arrG g), .int .i64 z, .float .f32 rr, .float .f32 x, .int .i64 most] w (RetGFC (pumpR g.m z (fb rr) (fb x) most) w) := by
  by_cases h0 : askC g.m z = 0
  rotate_left
  · obtain ⟨cc, hcc⟩ : ∃ cc, askC g.m z = cc := ⟨_, rfl⟩
    have HW : Hid (pumpR g.m z (fb rr) (fb x) most = (G0.m, zeroN, cc)) := by show _ = _; unfold pumpR; rw [if_neg h0, hcc]
    have hc0 : ¬ cc = 0 := by rw [← hcc]; exact h0
    have HC := Lib.hid hcc
    clear hcc h0
    go_enter Try.func87, Try.ntmps87
    go_wp2_with (with_reducible refine wpList_box rfl ?_)
    intro b w0 hB1 hB2 hB3 hB4
    go_wp2_with (with_reducible refine wpList_new newG ?_)
    intro R w1 hR1 hR2 hR3 hR4
    go_wp2_with (with_reducible refine wpList_new newF ?_)
    intro F w2 hF1 hF2 hF3 hF4
    have hX2 := (hB3.later hR4).later hF4
    have hR2' := hR3.later hF4
    have HB2 := Lib.hid (below_thru (below_thru hB4 hR4) hF4)
    have hbR : b < R := by omega
    have hRF : R < F := by omega
    have hwb : w.heap.size ≤ b := hB1
    clear hB3 hB4 hR3 hR4 hF4
    go_wp2_with fail
    refine (cellFault_any b _ z g w2 hr hX2).mono ?_
    rw [HC.out]
    rintro e w3 ⟨rfl, hb3⟩
    have hX3 := hX2.later hb3
    have hR3 := hR2'.later hb3
    have hF3' := hF3.later hb3
    have HB3 := Lib.hid (below_thru HB2.out hb3)
    clear hb3 hX2 hR2' hF3
    go_wp2_with (first | (with_reducible refine wpList_zero (zeroG _) ?_) | (with_reducible refine wpList_zero (zeroF _) ?_) | ((with_reducible refine wpList_putG (g := G0) hR3 ?_ ?_ ?_); rfl; rfl))
    intro w20 s20 b20 k20
    have F20 := (hF3').grown k20 (by omega)
    have B20 := Lib.hid (below_grown HB3.out k20 HB3.out.size (by omega))
    clear s20 k20
    go_wp2_with ((with_reducible refine wpList_putF (f := fun _ => 0) F20 ?_ ?_ ?_); rfl; rfl)
    intro w21 s21 b21 k21
    have R21 := b20.grown k21 (by omega)
    have B21 := Lib.hid (below_grown B20.out k21 B20.out.size (by omega))
    clear b20 F20 s21 k21
    go_wp2_with fail
    refine ret_fc rfl rfl rfl (loadG R21) (loadF b21) rfl ⟨G0, fun _ => 0, by rw [HW.out]; rfl, by rw [HW.out], by rw [HW.out]; rfl, B21.out⟩
  obtain ⟨hok, k, rfl, hk, hh⟩ := askC_zero h0
  have hs := sane_of hok hx
  have H0 := Lib.hid h0
  have HOK := Lib.hid hok
  have HHB := Lib.hid hh
  clear hok hh
  have hk1 : (k : Int) < 64 := by omega
  cases hp : plain (fb rr)
  · have HW : Hid (pumpR g.m k (fb rr) (fb x) most = (G0.m, zeroN, 2)) := by show _ = _; unfold pumpR; rw [if_pos h0, hp]; rfl
    have HP := Lib.hid hp
    clear h0 hp
    go_enter Try.func87, Try.ntmps87
    go_wp2_with (with_reducible refine wpList_box rfl ?_)
    intro b w0 hB1 hB2 hB3 hB4
    go_wp2_with (with_reducible refine wpList_new newG ?_)
    intro R w1 hR1 hR2 hR3 hR4
    go_wp2_with (with_reducible refine wpList_new newF ?_)
    intro F w2 hF1 hF2 hF3 hF4
    have hX2 := (hB3.later hR4).later hF4
    have hR2' := hR3.later hF4
    have HB2 := Lib.hid (below_thru (below_thru hB4 hR4) hF4)
    have hbR : b < R := by omega
    have hRF : R < F := by omega
    have hwb : w.heap.size ≤ b := hB1
    clear hB3 hB4 hR3 hR4 hF4
    go_wp2_with fail
    refine (cellFault_any b _ k g w2 hr hX2).mono ?_
    rw [H0.out]
    rintro e w3 ⟨rfl, hb3⟩
    have hX3 := hX2.later hb3
    have hR3 := hR2'.later hb3
    have hF3' := hF3.later hb3
    have HB3 := Lib.hid (below_thru HB2.out hb3)
    clear hb3 hX2 hR2' hF3
    go_wp2_with fail
    refine (IsPlain_any rr w3).mono ?_
    rw [HP.out]
    rintro e w4 ⟨rfl, hb4⟩
    have hX4 := hX3.later hb4
    have hR4 := hR3.later hb4
    have hF4 := hF3'.later hb4
    have HB4 := Lib.hid (below_thru HB3.out hb4)
    clear hb4 hX3 hR3 hF3'
    go_wp2_with (first | (with_reducible refine wpList_zero (zeroG _) ?_) | (with_reducible refine wpList_zero (zeroF _) ?_) | ((with_reducible refine wpList_putG (g := G0) hR4 ?_ ?_ ?_); rfl; rfl))
    intro w20 s20 b20 k20
    have F20 := (hF4).grown k20 (by omega)
    have B20 := Lib.hid (below_grown HB4.out k20 HB4.out.size (by omega))
    clear s20 k20
    go_wp2_with ((with_reducible refine wpList_putF (f := fun _ => 0) F20 ?_ ?_ ?_); rfl; rfl)
    intro w21 s21 b21 k21
    have R21 := b20.grown k21 (by omega)
    have B21 := Lib.hid (below_grown B20.out k21 B20.out.size (by omega))
    clear b20 F20 s21 k21
    go_wp2_with fail
    refine ret_fc rfl rfl rfl (loadG R21) (loadF b21) rfl ⟨G0, fun _ => 0, by rw [HW.out]; rfl, by rw [HW.out], by rw [HW.out]; rfl, B21.out⟩
  cases hso : (amount (fb x) && (decide (0 ≤ most) && decide (most ≤ 2000)))
  · have HW : Hid (pumpR g.m k (fb rr) (fb x) most = (G0.m, zeroN, 2)) := by show _ = _; unfold pumpR; rw [if_pos h0, hp, hso]; rfl
    have HP := Lib.hid hp
    have HS := Lib.hid hso
    clear h0 hp hso
    go_enter Try.func87, Try.ntmps87
    go_wp2_with (with_reducible refine wpList_box rfl ?_)
    intro b w0 hB1 hB2 hB3 hB4
    go_wp2_with (with_reducible refine wpList_new newG ?_)
    intro R w1 hR1 hR2 hR3 hR4
    go_wp2_with (with_reducible refine wpList_new newF ?_)
    intro F w2 hF1 hF2 hF3 hF4
    have hX2 := (hB3.later hR4).later hF4
    have hR2' := hR3.later hF4
    have HB2 := Lib.hid (below_thru (below_thru hB4 hR4) hF4)
    have hbR : b < R := by omega
    have hRF : R < F := by omega
    have hwb : w.heap.size ≤ b := hB1
    clear hB3 hB4 hR3 hR4 hF4
    go_wp2_with fail
    refine (cellFault_any b _ k g w2 hr hX2).mono ?_
    rw [H0.out]
    rintro e w3 ⟨rfl, hb3⟩
    have hX3 := hX2.later hb3
    have hR3 := hR2'.later hb3
    have hF3' := hF3.later hb3
    have HB3 := Lib.hid (below_thru HB2.out hb3)
    clear hb3 hX2 hR2' hF3
    go_wp2_with fail
    refine (IsPlain_any rr w3).mono ?_
    rw [HP.out]
    rintro e w4 ⟨rfl, hb4⟩
    have hX4 := hX3.later hb4
    have hR4 := hR3.later hb4
    have hF4 := hF3'.later hb4
    have HB4 := Lib.hid (below_thru HB3.out hb4)
    clear hb4 hX3 hR3 hF3'
    go_wp2_with fail
    refine (settleOk_any x _ w4).mono ?_
    rw [HS.out]
    rintro e w5 ⟨rfl, hb5⟩
    have hX5 := hX4.later hb5
    have hR5 := hR4.later hb5
    have hF5 := hF4.later hb5
    have HB5 := Lib.hid (below_thru HB4.out hb5)
    clear hb5 hX4 hR4 hF4
    go_wp2_with (first | (with_reducible refine wpList_zero (zeroG _) ?_) | (with_reducible refine wpList_zero (zeroF _) ?_) | ((with_reducible refine wpList_putG (g := G0) hR5 ?_ ?_ ?_); rfl; rfl))
    intro w20 s20 b20 k20
    have F20 := (hF5).grown k20 (by omega)
    have B20 := Lib.hid (below_grown HB5.out k20 HB5.out.size (by omega))
    clear s20 k20
    go_wp2_with ((with_reducible refine wpList_putF (f := fun _ => 0) F20 ?_ ?_ ?_); rfl; rfl)
    intro w21 s21 b21 k21
    have R21 := b20.grown k21 (by omega)
    have B21 := Lib.hid (below_grown B20.out k21 B20.out.size (by omega))
    clear b20 F20 s21 k21
    go_wp2_with fail
    refine ret_fc rfl rfl rfl (loadG R21) (loadF b21) rfl ⟨G0, fun _ => 0, by rw [HW.out]; rfl, by rw [HW.out], by rw [HW.out]; rfl, B21.out⟩
  have hmm := hso
  simp only [Bool.and_eq_true, decide_eq_true_eq] at hmm
  obtain ⟨_, m0, m1⟩ := hmm
  obtain ⟨mo, rfl⟩ : ∃ mo : Nat, most = mo := ⟨most.toNat, by omega⟩
  have hmo : mo ≤ 2000 := by omega
  have HP := Lib.hid hp
  have HS := Lib.hid hso
  go_enter Try.func87, Try.ntmps87
  go_wp2_with (with_reducible refine wpList_box rfl ?_)
  intro b w0 hB1 hB2 hB3 hB4
  go_wp2_with (with_reducible refine wpList_new newG ?_)
  intro R w1 hR1 hR2 hR3 hR4
  go_wp2_with (with_reducible refine wpList_new newF ?_)
  intro F w2 hF1 hF2 hF3 hF4
  have hX2 := (hB3.later hR4).later hF4
  have hR2' := hR3.later hF4
  have HB2 := Lib.hid (below_thru (below_thru hB4 hR4) hF4)
  have hbR : b < R := by omega
  have hRF : R < F := by omega
  have hwb : w.heap.size ≤ b := hB1
  clear hB3 hB4 hR3 hR4 hF4
  go_wp2_with fail
  refine (cellFault_any b _ k g w2 hr hX2).mono ?_
  rw [H0.out]
  rintro e w3 ⟨rfl, hb3⟩
  have hX3 := hX2.later hb3
  have hR3 := hR2'.later hb3
  have hF3' := hF3.later hb3
  have HB3 := Lib.hid (below_thru HB2.out hb3)
  clear hb3 hX2 hR2' hF3
  go_wp2_with fail
  refine (IsPlain_any rr w3).mono ?_
  rw [HP.out]
  rintro e w4 ⟨rfl, hb4⟩
  have hX4 := hX3.later hb4
  have hR4 := hR3.later hb4
  have hF4 := hF3'.later hb4
  have HB4 := Lib.hid (below_thru HB3.out hb4)
  clear hb4 hX3 hR3 hF3'
  go_wp2_with fail
  refine (settleOk_any x _ w4).mono ?_
  rw [HS.out]
  rintro e w5 ⟨rfl, hb5⟩
  have hX5 := hX4.later hb5
  have hR5 := hR4.later hb5
  have hF5 := hF4.later hb5
  have HB5 := Lib.hid (below_thru HB4.out hb5)
  clear hb5 hX4 hR4 hF4
  go_wp2_with (first | ((with_reducible refine wpList_getG hX5 ?_ ?_); rfl) | (with_reducible refine wpList_new newG ?_))
  intro P w6 hP1 hP2 hP3 hP4
  have hX6 := hX5.later hP4
  have hR6 := hR5.later hP4
  have hF6 := hF5.later hP4
  have HB6 := Lib.hid (below_thru HB5.out hP4)
  have hFP : F < P := by have := hF5.lt; omega
  clear hX5 hR5 hF5 hP4
  go_wp2_with ((with_reducible refine wpList_putG (g := g) hP3 ?_ ?_ ?_); rfl; rfl)
  intro w7 s7 b7 k7
  have hX7 := hX6.grown k7 (by omega)
  have hR7 := hR6.grown k7 (by omega)
  have hF7 := hF6.grown k7 (by omega)
  have HB7 := Lib.hid (below_grown HB6.out k7 HB6.out.size (by omega))
  have q1 := g_cell (GAt.of_blk b7) hk
  clear hX6 hR6 hF6 hP3 k7 s7
  go_wp2_with (first | ((with_reducible refine wpList_gate ?_); refine wpList_arith _ _ rfl rfl rfl ?_; intro r1 n1 hr1) | ((with_reducible refine wpList_gateS ?_); refine wpList_setGn (b7.drewN _) hk rfl rfl ?_))
  intro w8 s8 b8 k8
  have HV : Hid (fb r1 = fsub (g.m.g k) (fb rr)) := by
    show fb r1 = fsub (fm g.g k) (fb rr)
    rw [hr1.out, fop, fm_of hk]
  have hX8 := (hX7.drewN _).grown k8 (by omega)
  have hR8 := (hR7.drewN _).grown k8 (by omega)
  have hF8 := (hF7.drewN _).grown k8 (by omega)
  have HB8 := Lib.hid (below_grown (below_drawn HB7.out _) k8 HB7.out.size (by omega))
  obtain ⟨gp, hgp⟩ : ∃ gp : G, gp = { g with g := upd g.g k r1 } := ⟨_, rfl⟩
  rw [← hgp] at b8
  have HGM : Hid (gp.m = pumpG g.m k (fb rr)) := by
    show _ = _
    rw [hgp]
    show G.m _ = _
    unfold G.m pumpG
    dsimp only
    rw [fm_upd hk, HV.out]; rfl
  have hsp : gp.Sane := by rw [hgp]; cases hs; constructor <;> assumption
  have hrp : gp.Rng := hsp.rng
  have hxp : gp.Fx := by rw [hgp]; exact hx
  have hwp : gp.wide = g.wide := by rw [hgp]
  have hhp : gp.high = g.high := by rw [hgp]
  have HPOK : Hid (okI gp.m = plain (fb r1)) := by
    show _ = _
    rw [HGM.out, pump_ok _ HOK.out hk HHB.out, HV.out]
  have HGE := Lib.hid hgp
  clear hX7 hR7 hF7 b7 k8 s8 q1 hr1 hgp
  have q2 : w8.cell? ⟨P, 66 + k, none⟩ = some (.float .f32 r1) := by
    have := g_cell (GAt.of_blk b8) hk
    rw [this, HGE.out]; simp [upd]
  cases hpp : plain (fb r1)
  · have HW : Hid (pumpR g.m k (fb rr) (fb x) mo = (G0.m, zeroN, 4)) := by
      show _ = _; unfold pumpR; rw [if_pos h0, hp, hso, show g.m.g (Int.toNat (k : Int)) = g.m.g k from rfl, ← HV.out, hpp]; rfl
    have HPP := Lib.hid hpp
    clear h0 hp hso hpp
    go_wp2_with fail
    refine (IsPlain_any r1 w8).mono ?_
    rw [HPP.out]
    rintro e w9 ⟨rfl, hb9⟩
    have hX9 := hX8.later hb9
    have hR9 := hR8.later hb9
    have hF9 := hF8.later hb9
    have hP9 := b8.later hb9
    have HB9 := Lib.hid (below_thru HB8.out hb9)
    clear hb9 hX8 hR8 hF8 b8 q2
    go_wp2_with (first | (with_reducible refine wpList_zero (zeroG _) ?_) | (with_reducible refine wpList_zero (zeroF _) ?_) | ((with_reducible refine wpList_putG (g := G0) hR9 ?_ ?_ ?_); rfl; rfl))
    intro w20 s20 b20 k20
    have F20 := (hF9).grown k20 (by omega)
    have B20 := Lib.hid (below_grown HB9.out k20 HB9.out.size (by omega))
    clear s20 k20
    go_wp2_with ((with_reducible refine wpList_putF (f := fun _ => 0) F20 ?_ ?_ ?_); rfl; rfl)
    intro w21 s21 b21 k21
    have R21 := b20.grown k21 (by omega)
    have B21 := Lib.hid (below_grown B20.out k21 B20.out.size (by omega))
    clear b20 F20 s21 k21
    go_wp2_with fail
    refine ret_fc rfl rfl rfl (loadG R21) (loadF b21) rfl ⟨G0, fun _ => 0, by rw [HW.out]; rfl, by rw [HW.out], by rw [HW.out]; rfl, B21.out⟩
  have HPP := Lib.hid hpp
  have HW0 : Hid (pumpR g.m k (fb rr) (fb x) mo = (if (setl (fb x) mo 0 gp.m).2.2 = 0 then ((setl (fb x) mo 0 gp.m).1, chG g.m (setl (fb x) mo 0 gp.m).1, 0) else (G0.m, zeroN, (setl (fb x) mo 0 gp.m).2.2))) := by
    show _ = _; unfold pumpR; rw [if_pos h0, hp, hso, show g.m.g (Int.toNat (k : Int)) = g.m.g k from rfl, ← HV.out, hpp, HGM.out]; rfl
  clear h0 hp hso hpp
  go_wp2_with fail
  refine (IsPlain_any r1 w8).mono ?_
  rw [HPP.out]
  rintro e w9 ⟨rfl, hb9⟩
  have hX9 := hX8.later hb9
  have hR9 := hR8.later hb9
  have hF9 := hF8.later hb9
  have hP9 := b8.later hb9
  have HB9 := Lib.hid (below_thru HB8.out hb9)
  clear hb9 hX8 hR8 hF8 b8 q2
  have HSO := Lib.hid (setl_ok (fb x) mo 0 gp.m)
  obtain ⟨st, hst⟩ : ∃ st, setl (fb x) mo 0 gp.m = st := ⟨_, rfl⟩
  rw [hst] at HSO HW0
  obtain ⟨sm, sn, sc⟩ := st
  have HST := Lib.hid hst
  clear hst
  go_wp2_with ((with_reducible refine wpList_getG hP9 ?_ ?_); rfl)
  refine (settle_any gp x mo w9 hsp hmo).mono ?_
  rw [HST.out]
  rintro e w10 ⟨go, rfl, hgo, hb10⟩
  have HGO : Hid (go.m = sm) := hgo
  have hX10 := hX9.later hb10
  have hR10 := hR9.later hb10
  have hF10 := hF9.later hb10
  have HB10 := Lib.hid (below_thru HB9.out hb10)
  clear hb10 hX9 hR9 hF9 hP9 hgo
  go_wp2_with (with_reducible refine wpList_new newG ?_)
  intro O w11 hO1 hO2 hO3 hO4
  have hX11 := hX10.later hO4
  have hR11 := hR10.later hO4
  have hF11 := hF10.later hO4
  have HB11 := Lib.hid (below_thru HB10.out hO4)
  have hFO : F < O := by have := hF10.lt; omega
  clear hX10 hR10 hF10 hO4
  go_wp2_with ((with_reducible refine wpList_putG (g := go) hO3 ?_ ?_ ?_); rfl; rfl)
  intro w12 s12 b12 k12
  have hX12 := hX11.grown k12 (by omega)
  have hR12 := hR11.grown k12 (by omega)
  have hF12 := hF11.grown k12 (by omega)
  have HB12 := Lib.hid (below_grown HB11.out k12 HB11.out.size (by omega))
  clear hX11 hR11 hF11 hO3 k12 s12
  by_cases hsc : sc = 0
  rotate_left
  · have HW : Hid (pumpR g.m k (fb rr) (fb x) mo = (G0.m, zeroN, sc)) := by show _ = _; rw [HW0.out]; exact if_neg hsc
    go_wp2_with (first | (with_reducible refine wpList_zero (zeroG _) ?_) | (with_reducible refine wpList_zero (zeroF _) ?_) | ((with_reducible refine wpList_putG (g := G0) hR12 ?_ ?_ ?_); rfl; rfl))
    intro w20 s20 b20 k20
    have F20 := (hF12).grown k20 (by omega)
    have B20 := Lib.hid (below_grown HB12.out k20 HB12.out.size (by omega))
    clear s20 k20
    go_wp2_with ((with_reducible refine wpList_putF (f := fun _ => 0) F20 ?_ ?_ ?_); rfl; rfl)
    intro w21 s21 b21 k21
    have R21 := b20.grown k21 (by omega)
    have B21 := Lib.hid (below_grown B20.out k21 B20.out.size (by omega))
    clear b20 F20 s21 k21
    go_wp2_with fail
    refine ret_fc rfl rfl rfl (loadG R21) (loadF b21) rfl ⟨G0, fun _ => 0, by rw [HW.out]; rfl, by rw [HW.out], by rw [HW.out]; rfl, B21.out⟩
  subst hsc
  have HW : Hid (pumpR g.m k (fb rr) (fb x) mo = (sm, chG g.m sm, 0)) := by show _ = _; rw [HW0.out]; rfl
  obtain ⟨so1, so2, so3⟩ := HSO.out rfl
  have hoo : Hid (okI go.m = true) := by show _ = _; rw [HGO.out]; exact so1
  have hgW : go.wide = g.wide := by
    have : go.m.wide = gp.wide := by rw [HGO.out]; exact so2
    rw [hwp] at this; exact this
  have hgH : go.high = g.high := by
    have : go.m.high = gp.high := by rw [HGO.out]; exact so3
    rw [hhp] at this; exact this
  have hgr : go.Rng := rng_of (sized_of hoo.out)
  have HGW := Lib.hid hgW
  have HGH := Lib.hid hgH
  clear hgW hgH so1 so2 so3
  go_wp2_with (first | ((with_reducible refine wpList_getG hX12 ?_ ?_); rfl) | ((with_reducible refine wpList_getG b12 ?_ ?_); rfl))
  refine (ChangesBetween_any g go w12 hr hgr HOK.out hoo.out HGW.out HGH.out).mono ?_
  rintro e w13 ⟨fd, rfl, hfd, hb13⟩
  have HFD : Hid (fm fd = chG g.m sm) := by show _ = _; rw [hfd, HGO.out]
  have hR13 := hR12.later hb13
  have hF13 := hF12.later hb13
  have hO13 := b12.later hb13
  have HB13 := Lib.hid (below_thru HB12.out hb13)
  clear hb13 hX12 hR12 hF12 b12 hfd
  go_wp2_with (with_reducible refine wpList_new newF ?_)
  intro D w14 hD1 hD2 hD3 hD4
  have hR14 := hR13.later hD4
  have hF14 := hF13.later hD4
  have hO14 := hO13.later hD4
  have HB14 := Lib.hid (below_thru HB13.out hD4)
  have hOD : O < D := by have := hO13.lt; omega
  clear hR13 hF13 hO13 hD4
  go_wp2_with ((with_reducible refine wpList_putF (f := fd) hD3 ?_ ?_ ?_); rfl; rfl)
  intro w15 s15 b15 k15
  have hR15 := hR14.grown k15 (by omega)
  have hF15 := hF14.grown k15 (by omega)
  have hO15 := hO14.grown k15 (by omega)
  have HB15 := Lib.hid (below_grown HB14.out k15 HB14.out.size (by omega))
  clear hR14 hF14 hO14 hD3 k15 s15
  go_wp2_with fail
  refine wp_chain [R, F] (fun _ => #[]) (by kernel_rfl) (by kernel_rfl) ?_
  (with_reducible refine n_get hO15 ?_ Try.underlying30 ?_ ?_ ?_ ?_); (simp; omega); rfl; (rw [arrG_size]; exact sizeG); rfl
  (with_reducible refine n_get b15 ?_ Try.underlying27 ?_ ?_ ?_ ?_); (simp; omega); rfl; (rw [arrF_size]; exact sizeF); rfl
  refine n_put (cells := arrG go) (old := arrG G0) (fun w2 hb2 _ => hR15.later hb2) (.inr (by simp)) (Cls.of_below (Below.refl _ _)) (by rw [arrG_size]; exact sizeG) (by rw [arrG_size, arrG_size]) (arrG_one go) rfl rfl ?_
  intro v2 v3 hb2 _ hk3 hg3 hc3
  refine n_put (cells := arrF fd) (old := arrF fun _ => 0) (fun u2 hu2 _ => ((hF15.later hb2).grown hg3 (by omega)).later hu2) (.inr (by simp)) hc3 (by rw [arrF_size]; exact sizeF) (by rw [arrF_size, arrF_size]) (arrF_one fd) rfl rfl ?_
  intro u2 u3 hu2 _ hl3 hh3 hd3
  refine n_value (.int .i64 0) rfl (fun w' _ => rfl) ?_
  refine n_nil ?_
  rintro x2 hx2 _
  have bR := ((hk3.later hu2).grown hh3 (by omega)).later hx2
  have bF := hl3.later hx2
  have HB16 := Lib.hid (below_thru (below_grown (below_thru (below_grown (below_thru HB15.out hb2) hg3 (below_thru HB15.out hb2).size (by omega)) hu2) hh3 (Nat.le_trans (below_thru HB15.out hb2).size (Nat.le_trans hg3.size hu2.size)) (by omega)) hx2)
  clear hb2 hk3 hg3 hc3 hu2 hl3 hh3 hd3 hx2
  go_wp2_with fail
  refine ret_fc rfl rfl rfl (loadG bR) (loadF bF) rfl ⟨go, fd, by rw [HW.out]; rfl, by rw [HW.out]; exact HGO.out, by rw [HW.out]; exact HFD.out, HB16.out⟩

set_option maxRecDepth 100000 in
set_option maxHeartbeats 6400000 in
theorem specPumpAt_any (g : G) (z : Int) (rr x : Nat) (most : Int) (w : World) (hr : g.Rng) (hx : g.Fx) :
    Calls Try.prog 85 #[.agg (arrG g), .int .i64 z, .float .f32 rr, .float .f32 x, .int .i64 most] w (RetGFC (pumpR g.m z (fb rr) (fb x) most) w) := by
  by_cases h0 : askC g.m z = 0
  rotate_left
  · obtain ⟨cc, hcc⟩ : ∃ cc, askC g.m z = cc := ⟨_, rfl⟩
    have HW : Hid (pumpR g.m z (fb rr) (fb x) most = (G0.m, zeroN, cc)) := by show _ = _; unfold pumpR; rw [if_neg h0, hcc]
    have hc0 : ¬ cc = 0 := by rw [← hcc]; exact h0
    have HC := Lib.hid hcc
    clear hcc h0
    go_enter Try.func85, Try.ntmps85
    go_wp2_with (with_reducible refine wpList_box rfl ?_)
    intro b w0 hB1 hB2 hB3 hB4
    go_wp2_with (with_reducible refine wpList_new newG ?_)
    intro R w1 hR1 hR2 hR3 hR4
    go_wp2_with (with_reducible refine wpList_new newF ?_)
    intro F w2 hF1 hF2 hF3 hF4
    have hX2 := (hB3.later hR4).later hF4
    have hR2' := hR3.later hF4
    have HB2 := Lib.hid (below_thru (below_thru hB4 hR4) hF4)
    have hbR : b < R := by omega
    have hRF : R < F := by omega
    have hwb : w.heap.size ≤ b := hB1
    clear hB3 hB4 hR3 hR4 hF4
    go_wp2_with fail
    refine (l01Asked_any b _ z g w2 hr hX2).mono ?_
    rw [HC.out]
    rintro e w3 ⟨rfl, hb3⟩
    have hX3 := hX2.later hb3
    have hR3 := hR2'.later hb3
    have hF3' := hF3.later hb3
    have HB3 := Lib.hid (below_thru HB2.out hb3)
    clear hb3 hX2 hR2' hF3
    go_wp2_with (first | (with_reducible refine wpList_zero (zeroG _) ?_) | (with_reducible refine wpList_zero (zeroF _) ?_) | ((with_reducible refine wpList_putG (g := G0) hR3 ?_ ?_ ?_); rfl; rfl))
    intro w20 s20 b20 k20
    have F20 := (hF3').grown k20 (by omega)
    have B20 := Lib.hid (below_grown HB3.out k20 HB3.out.size (by omega))
    clear s20 k20
    go_wp2_with ((with_reducible refine wpList_putF (f := fun _ => 0) F20 ?_ ?_ ?_); rfl; rfl)
    intro w21 s21 b21 k21
    have R21 := b20.grown k21 (by omega)
    have B21 := Lib.hid (below_grown B20.out k21 B20.out.size (by omega))
    clear b20 F20 s21 k21
    go_wp2_with fail
    refine ret_fc rfl rfl rfl (loadG R21) (loadF b21) rfl ⟨G0, fun _ => 0, by rw [HW.out]; rfl, by rw [HW.out], by rw [HW.out]; rfl, B21.out⟩
  obtain ⟨hok, k, rfl, hk, hh⟩ := askC_zero h0
  have hs := sane_of hok hx
  have H0 := Lib.hid h0
  have HOK := Lib.hid hok
  have HHB := Lib.hid hh
  clear hok hh
  have hk1 : (k : Int) < 64 := by omega
  cases hp : plain (fb rr)
  · have HW : Hid (pumpR g.m k (fb rr) (fb x) most = (G0.m, zeroN, 2)) := by show _ = _; unfold pumpR; rw [if_pos h0, hp]; rfl
    have HP := Lib.hid hp
    clear h0 hp
    go_enter Try.func85, Try.ntmps85
    go_wp2_with (with_reducible refine wpList_box rfl ?_)
    intro b w0 hB1 hB2 hB3 hB4
    go_wp2_with (with_reducible refine wpList_new newG ?_)
    intro R w1 hR1 hR2 hR3 hR4
    go_wp2_with (with_reducible refine wpList_new newF ?_)
    intro F w2 hF1 hF2 hF3 hF4
    have hX2 := (hB3.later hR4).later hF4
    have hR2' := hR3.later hF4
    have HB2 := Lib.hid (below_thru (below_thru hB4 hR4) hF4)
    have hbR : b < R := by omega
    have hRF : R < F := by omega
    have hwb : w.heap.size ≤ b := hB1
    clear hB3 hB4 hR3 hR4 hF4
    go_wp2_with fail
    refine (l01Asked_any b _ k g w2 hr hX2).mono ?_
    rw [H0.out]
    rintro e w3 ⟨rfl, hb3⟩
    have hX3 := hX2.later hb3
    have hR3 := hR2'.later hb3
    have hF3' := hF3.later hb3
    have HB3 := Lib.hid (below_thru HB2.out hb3)
    clear hb3 hX2 hR2' hF3
    go_wp2_with fail
    refine (l01Plain_any rr w3).mono ?_
    rw [HP.out]
    rintro e w4 ⟨rfl, hb4⟩
    have hX4 := hX3.later hb4
    have hR4 := hR3.later hb4
    have hF4 := hF3'.later hb4
    have HB4 := Lib.hid (below_thru HB3.out hb4)
    clear hb4 hX3 hR3 hF3'
    go_wp2_with (first | (with_reducible refine wpList_zero (zeroG _) ?_) | (with_reducible refine wpList_zero (zeroF _) ?_) | ((with_reducible refine wpList_putG (g := G0) hR4 ?_ ?_ ?_); rfl; rfl))
    intro w20 s20 b20 k20
    have F20 := (hF4).grown k20 (by omega)
    have B20 := Lib.hid (below_grown HB4.out k20 HB4.out.size (by omega))
    clear s20 k20
    go_wp2_with ((with_reducible refine wpList_putF (f := fun _ => 0) F20 ?_ ?_ ?_); rfl; rfl)
    intro w21 s21 b21 k21
    have R21 := b20.grown k21 (by omega)
    have B21 := Lib.hid (below_grown B20.out k21 B20.out.size (by omega))
    clear b20 F20 s21 k21
    go_wp2_with fail
    refine ret_fc rfl rfl rfl (loadG R21) (loadF b21) rfl ⟨G0, fun _ => 0, by rw [HW.out]; rfl, by rw [HW.out], by rw [HW.out]; rfl, B21.out⟩
  cases ham : amount (fb x)
  · have HW : Hid (pumpR g.m k (fb rr) (fb x) most = (G0.m, zeroN, 2)) := by show _ = _; unfold pumpR; rw [if_pos h0, hp, ham]; rfl
    have HP := Lib.hid hp
    have HAM := Lib.hid ham
    clear h0 hp ham
    go_enter Try.func85, Try.ntmps85
    go_wp2_with (with_reducible refine wpList_box rfl ?_)
    intro b w0 hB1 hB2 hB3 hB4
    go_wp2_with (with_reducible refine wpList_new newG ?_)
    intro R w1 hR1 hR2 hR3 hR4
    go_wp2_with (with_reducible refine wpList_new newF ?_)
    intro F w2 hF1 hF2 hF3 hF4
    have hX2 := (hB3.later hR4).later hF4
    have hR2' := hR3.later hF4
    have HB2 := Lib.hid (below_thru (below_thru hB4 hR4) hF4)
    have hbR : b < R := by omega
    have hRF : R < F := by omega
    have hwb : w.heap.size ≤ b := hB1
    clear hB3 hB4 hR3 hR4 hF4
    go_wp2_with fail
    refine (l01Asked_any b _ k g w2 hr hX2).mono ?_
    rw [H0.out]
    rintro e w3 ⟨rfl, hb3⟩
    have hX3 := hX2.later hb3
    have hR3 := hR2'.later hb3
    have hF3' := hF3.later hb3
    have HB3 := Lib.hid (below_thru HB2.out hb3)
    clear hb3 hX2 hR2' hF3
    go_wp2_with fail
    refine (l01Plain_any rr w3).mono ?_
    rw [HP.out]
    rintro e w4 ⟨rfl, hb4⟩
    have hX4 := hX3.later hb4
    have hR4 := hR3.later hb4
    have hF4 := hF3'.later hb4
    have HB4 := Lib.hid (below_thru HB3.out hb4)
    clear hb4 hX3 hR3 hF3'
    go_wp2_with fail
    refine (l02Within_any x w4).mono ?_
    rw [HAM.out]
    rintro e w5 ⟨rfl, hb5⟩
    have hX5 := hX4.later hb5
    have hR5 := hR4.later hb5
    have hF5 := hF4.later hb5
    have HB5 := Lib.hid (below_thru HB4.out hb5)
    clear hb5 hX4 hR4 hF4
    go_wp2_with (first | (with_reducible refine wpList_zero (zeroG _) ?_) | (with_reducible refine wpList_zero (zeroF _) ?_) | ((with_reducible refine wpList_putG (g := G0) hR5 ?_ ?_ ?_); rfl; rfl))
    intro w20 s20 b20 k20
    have F20 := (hF5).grown k20 (by omega)
    have B20 := Lib.hid (below_grown HB5.out k20 HB5.out.size (by omega))
    clear s20 k20
    go_wp2_with ((with_reducible refine wpList_putF (f := fun _ => 0) F20 ?_ ?_ ?_); rfl; rfl)
    intro w21 s21 b21 k21
    have R21 := b20.grown k21 (by omega)
    have B21 := Lib.hid (below_grown B20.out k21 B20.out.size (by omega))
    clear b20 F20 s21 k21
    go_wp2_with fail
    refine ret_fc rfl rfl rfl (loadG R21) (loadF b21) rfl ⟨G0, fun _ => 0, by rw [HW.out]; rfl, by rw [HW.out], by rw [HW.out]; rfl, B21.out⟩
  cases ht : (decide (0 ≤ most) && decide (most ≤ 2000))
  · have HW : Hid (pumpR g.m k (fb rr) (fb x) most = (G0.m, zeroN, 2)) := by show _ = _; unfold pumpR; rw [if_pos h0, hp, ham, ht]; rfl
    have HP := Lib.hid hp
    have HAM := Lib.hid ham
    have HT : Hid ((decide (0 ≤ most) && decide (most ≤ 2000)) = false) := ht
    clear h0 hp ham ht
    go_enter Try.func85, Try.ntmps85
    go_wp2_with (with_reducible refine wpList_box rfl ?_)
    intro b w0 hB1 hB2 hB3 hB4
    go_wp2_with (with_reducible refine wpList_new newG ?_)
    intro R w1 hR1 hR2 hR3 hR4
    go_wp2_with (with_reducible refine wpList_new newF ?_)
    intro F w2 hF1 hF2 hF3 hF4
    have hX2 := (hB3.later hR4).later hF4
    have hR2' := hR3.later hF4
    have HB2 := Lib.hid (below_thru (below_thru hB4 hR4) hF4)
    have hbR : b < R := by omega
    have hRF : R < F := by omega
    have hwb : w.heap.size ≤ b := hB1
    clear hB3 hB4 hR3 hR4 hF4
    go_wp2_with fail
    refine (l01Asked_any b _ k g w2 hr hX2).mono ?_
    rw [H0.out]
    rintro e w3 ⟨rfl, hb3⟩
    have hX3 := hX2.later hb3
    have hR3 := hR2'.later hb3
    have hF3' := hF3.later hb3
    have HB3 := Lib.hid (below_thru HB2.out hb3)
    clear hb3 hX2 hR2' hF3
    go_wp2_with fail
    refine (l01Plain_any rr w3).mono ?_
    rw [HP.out]
    rintro e w4 ⟨rfl, hb4⟩
    have hX4 := hX3.later hb4
    have hR4 := hR3.later hb4
    have hF4 := hF3'.later hb4
    have HB4 := Lib.hid (below_thru HB3.out hb4)
    clear hb4 hX3 hR3 hF3'
    go_wp2_with fail
    refine (l02Within_any x w4).mono ?_
    rw [HAM.out]
    rintro e w5 ⟨rfl, hb5⟩
    have hX5 := hX4.later hb5
    have hR5 := hR4.later hb5
    have hF5 := hF4.later hb5
    have HB5 := Lib.hid (below_thru HB4.out hb5)
    clear hb5 hX4 hR4 hF4
    go_wp2_with (first | (go_at_call 96; refine (l00In_any _ 0 2000 _).mono ?_; rw [HT.out]; rintro e w' ⟨rfl, rfl⟩) | (with_reducible refine wpList_zero (zeroG _) ?_) | (with_reducible refine wpList_zero (zeroF _) ?_) | ((with_reducible refine wpList_putG (g := G0) hR5 ?_ ?_ ?_); rfl; rfl))
    intro w20 s20 b20 k20
    have F20 := (hF5).grown k20 (by omega)
    have B20 := Lib.hid (below_grown HB5.out k20 HB5.out.size (by omega))
    clear s20 k20
    go_wp2_with ((with_reducible refine wpList_putF (f := fun _ => 0) F20 ?_ ?_ ?_); rfl; rfl)
    intro w21 s21 b21 k21
    have R21 := b20.grown k21 (by omega)
    have B21 := Lib.hid (below_grown B20.out k21 B20.out.size (by omega))
    clear b20 F20 s21 k21
    go_wp2_with fail
    refine ret_fc rfl rfl rfl (loadG R21) (loadF b21) rfl ⟨G0, fun _ => 0, by rw [HW.out]; rfl, by rw [HW.out], by rw [HW.out]; rfl, B21.out⟩
  have hso : (amount (fb x) && (decide (0 ≤ most) && decide (most ≤ 2000))) = true := by rw [ham, ht]; rfl
  have HAM := Lib.hid ham
  have HT : Hid ((decide (0 ≤ most) && decide (most ≤ 2000)) = true) := ht
  clear ham ht
  have hmm := hso
  simp only [Bool.and_eq_true, decide_eq_true_eq] at hmm
  obtain ⟨_, m0, m1⟩ := hmm
  obtain ⟨mo, rfl⟩ : ∃ mo : Nat, most = mo := ⟨most.toNat, by omega⟩
  have hmo : mo ≤ 2000 := by omega
  have HP := Lib.hid hp
  have HS := Lib.hid hso
  go_enter Try.func85, Try.ntmps85
  go_wp2_with (with_reducible refine wpList_box rfl ?_)
  intro b w0 hB1 hB2 hB3 hB4
  go_wp2_with (with_reducible refine wpList_new newG ?_)
  intro R w1 hR1 hR2 hR3 hR4
  go_wp2_with (with_reducible refine wpList_new newF ?_)
  intro F w2 hF1 hF2 hF3 hF4
  have hX2 := (hB3.later hR4).later hF4
  have hR2' := hR3.later hF4
  have HB2 := Lib.hid (below_thru (below_thru hB4 hR4) hF4)
  have hbR : b < R := by omega
  have hRF : R < F := by omega
  have hwb : w.heap.size ≤ b := hB1
  clear hB3 hB4 hR3 hR4 hF4
  go_wp2_with fail
  refine (l01Asked_any b _ k g w2 hr hX2).mono ?_
  rw [H0.out]
  rintro e w3 ⟨rfl, hb3⟩
  have hX3 := hX2.later hb3
  have hR3 := hR2'.later hb3
  have hF3' := hF3.later hb3
  have HB3 := Lib.hid (below_thru HB2.out hb3)
  clear hb3 hX2 hR2' hF3
  go_wp2_with fail
  refine (l01Plain_any rr w3).mono ?_
  rw [HP.out]
  rintro e w4 ⟨rfl, hb4⟩
  have hX4 := hX3.later hb4
  have hR4 := hR3.later hb4
  have hF4 := hF3'.later hb4
  have HB4 := Lib.hid (below_thru HB3.out hb4)
  clear hb4 hX3 hR3 hF3'
  go_wp2_with fail
  refine (l02Within_any x w4).mono ?_
  rw [HAM.out]
  rintro e w5 ⟨rfl, hb5⟩
  have hX5 := hX4.later hb5
  have hR5 := hR4.later hb5
  have hF5 := hF4.later hb5
  have HB5 := Lib.hid (below_thru HB4.out hb5)
  clear hb5 hX4 hR4 hF4
  go_wp2_with (first | (go_at_call 96; refine (l00In_any _ 0 2000 _).mono ?_; rw [HT.out]; rintro e w' ⟨rfl, rfl⟩) | ((with_reducible refine wpList_getG hX5 ?_ ?_); rfl) | (with_reducible refine wpList_new newG ?_))
  intro P w6 hP1 hP2 hP3 hP4
  have hX6 := hX5.later hP4
  have hR6 := hR5.later hP4
  have hF6 := hF5.later hP4
  have HB6 := Lib.hid (below_thru HB5.out hP4)
  have hFP : F < P := by have := hF5.lt; omega
  clear hX5 hR5 hF5 hP4
  go_wp2_with ((with_reducible refine wpList_putG (g := g) hP3 ?_ ?_ ?_); rfl; rfl)
  intro w7 s7 b7 k7
  have hX7 := hX6.grown k7 (by omega)
  have hR7 := hR6.grown k7 (by omega)
  have hF7 := hF6.grown k7 (by omega)
  have HB7 := Lib.hid (below_grown HB6.out k7 HB6.out.size (by omega))
  have q1 := g_cell (GAt.of_blk hX7) hk
  clear hX6 hR6 hF6 hP3 k7 s7
  go_wp2_with (first | ((with_reducible refine wpList_gate ?_); refine wpList_arith _ _ rfl rfl rfl ?_; intro r1 n1 hr1) | ((with_reducible refine wpList_gateS ?_); refine wpList_setGn (b7.drewN _) hk rfl rfl ?_))
  intro w8 s8 b8 k8
  have HV : Hid (fb r1 = fsub (g.m.g k) (fb rr)) := by
    show fb r1 = fsub (fm g.g k) (fb rr)
    rw [hr1.out, fop, fm_of hk]
  have hX8 := (hX7.drewN _).grown k8 (by omega)
  have hR8 := (hR7.drewN _).grown k8 (by omega)
  have hF8 := (hF7.drewN _).grown k8 (by omega)
  have HB8 := Lib.hid (below_grown (below_drawn HB7.out _) k8 HB7.out.size (by omega))
  obtain ⟨gp, hgp⟩ : ∃ gp : G, gp = { g with g := upd g.g k r1 } := ⟨_, rfl⟩
  rw [← hgp] at b8
  have HGM : Hid (gp.m = pumpG g.m k (fb rr)) := by
    show _ = _
    rw [hgp]
    show G.m _ = _
    unfold G.m pumpG
    dsimp only
    rw [fm_upd hk, HV.out]; rfl
  have hsp : gp.Sane := by rw [hgp]; cases hs; constructor <;> assumption
  have hrp : gp.Rng := hsp.rng
  have hxp : gp.Fx := by rw [hgp]; exact hx
  have hwp : gp.wide = g.wide := by rw [hgp]
  have hhp : gp.high = g.high := by rw [hgp]
  have HPOK : Hid (okI gp.m = plain (fb r1)) := by
    show _ = _
    rw [HGM.out, pump_ok _ HOK.out hk HHB.out, HV.out]
  have HGE := Lib.hid hgp
  clear hX7 hR7 hF7 b7 k8 s8 q1 hr1 hgp
  cases hpp : plain (fb r1)
  · have HW : Hid (pumpR g.m k (fb rr) (fb x) mo = (G0.m, zeroN, 4)) := by
      show _ = _; unfold pumpR; rw [if_pos h0, hp, hso, show g.m.g (Int.toNat (k : Int)) = g.m.g k from rfl, ← HV.out, hpp]; rfl
    have HPP := Lib.hid hpp
    clear h0 hp hso hpp
    go_wp2_with fail
    refine (l01Ok_any P 0 gp w8 hrp (GAt.of_blk b8)).mono ?_
    rw [HPOK.out, HPP.out]
    rintro e w9 ⟨rfl, hb9⟩
    have hX9 := hX8.later hb9
    have hR9 := hR8.later hb9
    have hF9 := hF8.later hb9
    have hP9 := b8.later hb9
    have HB9 := Lib.hid (below_thru HB8.out hb9)
    clear hb9 hX8 hR8 hF8 b8
    go_wp2_with (first | (with_reducible refine wpList_zero (zeroG _) ?_) | (with_reducible refine wpList_zero (zeroF _) ?_) | ((with_reducible refine wpList_putG (g := G0) hR9 ?_ ?_ ?_); rfl; rfl))
    intro w20 s20 b20 k20
    have F20 := (hF9).grown k20 (by omega)
    have B20 := Lib.hid (below_grown HB9.out k20 HB9.out.size (by omega))
    clear s20 k20
    go_wp2_with ((with_reducible refine wpList_putF (f := fun _ => 0) F20 ?_ ?_ ?_); rfl; rfl)
    intro w21 s21 b21 k21
    have R21 := b20.grown k21 (by omega)
    have B21 := Lib.hid (below_grown B20.out k21 B20.out.size (by omega))
    clear b20 F20 s21 k21
    go_wp2_with fail
    refine ret_fc rfl rfl rfl (loadG R21) (loadF b21) rfl ⟨G0, fun _ => 0, by rw [HW.out]; rfl, by rw [HW.out], by rw [HW.out]; rfl, B21.out⟩
  have HPP := Lib.hid hpp
  have HW0 : Hid (pumpR g.m k (fb rr) (fb x) mo = (if (setl (fb x) mo 0 gp.m).2.2 = 0 then ((setl (fb x) mo 0 gp.m).1, chG g.m (setl (fb x) mo 0 gp.m).1, 0) else (G0.m, zeroN, (setl (fb x) mo 0 gp.m).2.2))) := by
    show _ = _; unfold pumpR; rw [if_pos h0, hp, hso, show g.m.g (Int.toNat (k : Int)) = g.m.g k from rfl, ← HV.out, hpp, HGM.out]; rfl
  clear h0 hp hso hpp
  go_wp2_with fail
  refine (l01Ok_any P 0 gp w8 hrp (GAt.of_blk b8)).mono ?_
  rw [HPOK.out, HPP.out]
  rintro e w9 ⟨rfl, hb9⟩
  have hX9 := hX8.later hb9
  have hR9 := hR8.later hb9
  have hF9 := hF8.later hb9
  have hP9 := b8.later hb9
  have HB9 := Lib.hid (below_thru HB8.out hb9)
  clear hb9 hX8 hR8 hF8 b8
  have HSO := Lib.hid (setl_ok (fb x) mo 0 gp.m)
  obtain ⟨st, hst⟩ : ∃ st, setl (fb x) mo 0 gp.m = st := ⟨_, rfl⟩
  rw [hst] at HSO HW0
  obtain ⟨sm, sn, sc⟩ := st
  have HST := Lib.hid hst
  clear hst
  go_wp2_with fail
  refine (l02Settle_any P _ gp x mo w9 hsp hP9 hmo).mono ?_
  rw [HST.out]
  rintro e w10 ⟨go, rfl, hgo, hb10⟩
  have HGO : Hid (go.m = sm) := hgo
  have hX10 := hX9.later hb10
  have hR10 := hR9.later hb10
  have hF10 := hF9.later hb10
  have HB10 := Lib.hid (below_thru HB9.out hb10)
  clear hb10 hX9 hR9 hF9 hP9 hgo
  go_wp2_with (with_reducible refine wpList_new newG ?_)
  intro O w11 hO1 hO2 hO3 hO4
  have hX11 := hX10.later hO4
  have hR11 := hR10.later hO4
  have hF11 := hF10.later hO4
  have HB11 := Lib.hid (below_thru HB10.out hO4)
  have hFO : F < O := by have := hF10.lt; omega
  clear hX10 hR10 hF10 hO4
  go_wp2_with ((with_reducible refine wpList_putG (g := go) hO3 ?_ ?_ ?_); rfl; rfl)
  intro w12 s12 b12 k12
  have hX12 := hX11.grown k12 (by omega)
  have hR12 := hR11.grown k12 (by omega)
  have hF12 := hF11.grown k12 (by omega)
  have HB12 := Lib.hid (below_grown HB11.out k12 HB11.out.size (by omega))
  clear hX11 hR11 hF11 hO3 k12 s12
  by_cases hsc : sc = 0
  rotate_left
  · have HW : Hid (pumpR g.m k (fb rr) (fb x) mo = (G0.m, zeroN, sc)) := by show _ = _; rw [HW0.out]; exact if_neg hsc
    go_wp2_with (first | (with_reducible refine wpList_zero (zeroG _) ?_) | (with_reducible refine wpList_zero (zeroF _) ?_) | ((with_reducible refine wpList_putG (g := G0) hR12 ?_ ?_ ?_); rfl; rfl))
    intro w20 s20 b20 k20
    have F20 := (hF12).grown k20 (by omega)
    have B20 := Lib.hid (below_grown HB12.out k20 HB12.out.size (by omega))
    clear s20 k20
    go_wp2_with ((with_reducible refine wpList_putF (f := fun _ => 0) F20 ?_ ?_ ?_); rfl; rfl)
    intro w21 s21 b21 k21
    have R21 := b20.grown k21 (by omega)
    have B21 := Lib.hid (below_grown B20.out k21 B20.out.size (by omega))
    clear b20 F20 s21 k21
    go_wp2_with fail
    refine ret_fc rfl rfl rfl (loadG R21) (loadF b21) rfl ⟨G0, fun _ => 0, by rw [HW.out]; rfl, by rw [HW.out], by rw [HW.out]; rfl, B21.out⟩
  subst hsc
  have HW : Hid (pumpR g.m k (fb rr) (fb x) mo = (sm, chG g.m sm, 0)) := by show _ = _; rw [HW0.out]; rfl
  obtain ⟨so1, so2, so3⟩ := HSO.out rfl
  have hoo : Hid (okI go.m = true) := by show _ = _; rw [HGO.out]; exact so1
  have hgW : go.wide = g.wide := by
    have : go.m.wide = gp.wide := by rw [HGO.out]; exact so2
    rw [hwp] at this; exact this
  have hgH : go.high = g.high := by
    have : go.m.high = gp.high := by rw [HGO.out]; exact so3
    rw [hhp] at this; exact this
  have hgr : go.Rng := rng_of (sized_of hoo.out)
  have HGW := Lib.hid hgW
  have HGH := Lib.hid hgH
  clear hgW hgH so1 so2 so3
  go_wp2_with fail
  refine (l02Changes_any b O _ _ g go w12 hr hX12 b12 HGW.out HGH.out).mono ?_
  rintro e w13 ⟨fd, rfl, hfd, hb13⟩
  have HFD : Hid (fm fd = chG g.m sm) := by show _ = _; rw [hfd, HGO.out]
  have hR13 := hR12.later hb13
  have hF13 := hF12.later hb13
  have hO13 := b12.later hb13
  have HB13 := Lib.hid (below_thru HB12.out hb13)
  clear hb13 hX12 hR12 hF12 b12 hfd
  go_wp2_with (with_reducible refine wpList_new newF ?_)
  intro D w14 hD1 hD2 hD3 hD4
  have hR14 := hR13.later hD4
  have hF14 := hF13.later hD4
  have hO14 := hO13.later hD4
  have HB14 := Lib.hid (below_thru HB13.out hD4)
  have hOD : O < D := by have := hO13.lt; omega
  clear hR13 hF13 hO13 hD4
  go_wp2_with ((with_reducible refine wpList_putF (f := fd) hD3 ?_ ?_ ?_); rfl; rfl)
  intro w15 s15 b15 k15
  have hR15 := hR14.grown k15 (by omega)
  have hF15 := hF14.grown k15 (by omega)
  have hO15 := hO14.grown k15 (by omega)
  have HB15 := Lib.hid (below_grown HB14.out k15 HB14.out.size (by omega))
  clear hR14 hF14 hO14 hD3 k15 s15
  go_wp2_with fail
  refine wp_chain [R, F] (fun _ => #[]) (by kernel_rfl) (by kernel_rfl) ?_
  (with_reducible refine n_get hO15 ?_ Try.underlying30 ?_ ?_ ?_ ?_); (simp; omega); rfl; (rw [arrG_size]; exact sizeG); rfl
  (with_reducible refine n_get b15 ?_ Try.underlying27 ?_ ?_ ?_ ?_); (simp; omega); rfl; (rw [arrF_size]; exact sizeF); rfl
  refine n_put (cells := arrG go) (old := arrG G0) (fun w2 hb2 _ => hR15.later hb2) (.inr (by simp)) (Cls.of_below (Below.refl _ _)) (by rw [arrG_size]; exact sizeG) (by rw [arrG_size, arrG_size]) (arrG_one go) rfl rfl ?_
  intro v2 v3 hb2 _ hk3 hg3 hc3
  refine n_put (cells := arrF fd) (old := arrF fun _ => 0) (fun u2 hu2 _ => ((hF15.later hb2).grown hg3 (by omega)).later hu2) (.inr (by simp)) hc3 (by rw [arrF_size]; exact sizeF) (by rw [arrF_size, arrF_size]) (arrF_one fd) rfl rfl ?_
  intro u2 u3 hu2 _ hl3 hh3 hd3
  refine n_value (.int .i64 0) rfl (fun w' _ => rfl) ?_
  refine n_nil ?_
  rintro x2 hx2 _
  have bR := ((hk3.later hu2).grown hh3 (by omega)).later hx2
  have bF := hl3.later hx2
  have HB16 := Lib.hid (below_thru (below_grown (below_thru (below_grown (below_thru HB15.out hb2) hg3 (below_thru HB15.out hb2).size (by omega)) hu2) hh3 (Nat.le_trans (below_thru HB15.out hb2).size (Nat.le_trans hg3.size hu2.size)) (by omega)) hx2)
  clear hb2 hk3 hg3 hc3 hu2 hl3 hh3 hd3 hx2
  go_wp2_with fail
  refine ret_fc rfl rfl rfl (loadG bR) (loadF bF) rfl ⟨go, fd, by rw [HW.out]; rfl, by rw [HW.out]; exact HGO.out, by rw [HW.out]; exact HFD.out, HB16.out⟩

end Go.Proofs.Ytfcphfdfpjmgiaa
