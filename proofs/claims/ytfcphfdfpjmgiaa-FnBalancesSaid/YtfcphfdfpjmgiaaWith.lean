/- Grounds that are changed at a cell: the program's walk through its function values. -/
import Derived.Test.YtfcphfdfpjmgiaaFedS
namespace Go.Proofs.Ytfcphfdfpjmgiaa
open Go.RowKit

theorem field_upd {W H : Int} {right : F → Bool} {f : Nat → Nat} {k r : Nat} (h : fieldTo W H right (fm f) 64 = true) (hk : k < 64) (hh : hasB W H k = true) (hr : right (fb r) = true) : fieldTo W H right (fm (upd f k r)) 64 = true := by
  unfold fieldTo at h ⊢
  rw [List.all_eq_true] at h ⊢
  intro j hj
  have h1 := h j hj
  have hj := List.mem_range.1 hj
  by_cases e : j = k
  · subst e
    rw [fm_of hj, hh]
    show right (fb (upd f j r j)) = true
    unfold upd; rw [if_pos rfl]; exact hr
  · rw [fm_of hj] at h1 ⊢
    have : upd f k r j = f j := by unfold upd; rw [if_neg e]
    rw [this]; exact h1
theorem ok_parts {m : M} (h : okI m = true) : sized m ∧ fieldTo m.wide m.high amount m.c 64 = true ∧ fieldTo m.wide m.high plain m.g 64 = true ∧ fieldTo m.wide m.high plain m.h 64 = true ∧ fixedOk m = true := by
  unfold okI fieldsI at h
  simp only [Bool.and_eq_true, decide_eq_true_eq] at h
  exact ⟨h.1.1, h.1.2.1.1, h.1.2.1.2, h.1.2.2, h.2⟩
theorem ok_of {m : M} (h : sized m) (h1 : fieldTo m.wide m.high amount m.c 64 = true) (h2 : fieldTo m.wide m.high plain m.g 64 = true) (h3 : fieldTo m.wide m.high plain m.h 64 = true) (h4 : fixedOk m = true) : okI m = true := by
  unfold okI fieldsI
  rw [decide_eq_true h, h1, h2, h3, h4]; rfl
/-- A bit that is taken out and put in again. -/
theorem andNot_or {x : Int} {k : Nat} (h0 : 0 ≤ x) (h1 : x < 18446744073709551616) (hk : k < 64) :
    bits BinOp.or IntKind.u64 (bits BinOp.andNot IntKind.u64 x (IntKind.u64.wrap (2 ^ k))) (IntKind.u64.wrap (2 ^ k)) = orBit x k := by
  obtain ⟨n, rfl⟩ := Int.eq_ofNat_of_zero_le h0
  have hn : n < 2 ^ 64 := by omega
  have hp : 2 ^ k < 2 ^ 64 := Nat.pow_lt_pow_right (by decide) hk
  have e1 : IntKind.u64.wrap (2 ^ k) = ((2 ^ k : Nat) : Int) := by
    rw [IntKind.wrap_u64, show ((2 : Int) ^ k) = ((2 ^ k : Nat) : Int) by simp]
    generalize 2 ^ k = p at hp
    omega
  rw [or_word hn hk, e1, u64_andNot_nat _ _ hn hp, u64_or_nat _ _ (Nat.lt_of_le_of_lt Nat.and_le_left hn) hp]
  congr 1
  apply Nat.eq_of_testBit_eq
  intro i
  rw [or_bit, or_bit, Nat.testBit_and]
  have h3 : (2 ^ 64 - 1 - 2 ^ k).testBit i = (decide (i < 64) && !(2 ^ k).testBit i) := by
    have := Nat.testBit_two_pow_sub_succ (x := 2 ^ k) (n := 64) hp i
    rw [show 2 ^ 64 - 1 - 2 ^ k = 2 ^ 64 - (2 ^ k + 1) by omega]
    exact this
  rw [show (18446744073709551615 : Nat) = 2 ^ 64 - 1 from rfl, h3, Nat.testBit_two_pow]
  by_cases e : k = i
  · simp [e]
  · simp only [e, decide_false, Bool.or_false, Bool.not_false, Bool.and_true]
    by_cases hi : i < 64
    · simp [hi]
    · have : n.testBit i = false := Nat.testBit_lt_two_pow (Nat.lt_of_lt_of_le hn (Nat.pow_le_pow_right (by decide) (by omega)))
      simp [this]
theorem drawn_fixedOk {g : G} (h : Drawn g) {k : Nat} (hk : IsCell g.m k) : fixedOk { g.m with fixed := orBit g.fixed k } = true := by
  obtain ⟨l, hl, hs, c, hc⟩ := h.fx
  have hm : ∀ c ∈ l ++ [k], c ∈ cellsM g.m := fun c hc => by
    rcases List.mem_append.1 hc with h1 | h1
    · exact hs c h1
    · rw [List.mem_singleton.1 h1]; exact mem_cellsS.2 hk
  have e : orBit g.fixed k = bitsL (l ++ [k]) := by rw [bitsL_snoc, hl]
  unfold fixedOk
  show (orBit g.fixed k != 0 && (bits BinOp.andNot IntKind.u64 (orBit g.fixed k) (bitsL (cellsM g.m)) == 0)) = true
  rw [e, bitsL_less (fun c hc => cells64 hc) hm, Bool.and_eq_true]
  exact ⟨by simpa using bitsL_ne (fun c hc => cells64 (hm c hc)) (c := k) (by simp), by decide⟩

/-- A changed ground is handed back, with a code. -/
def RetW (g : G) (w : World) (e : Ending) (w' : World) : Prop := e = .returned (.tuple #[.agg (arrG g), .int .i64 0]) ∧ Below w.heap.size w w'

set_option maxRecDepth 100000 in
set_option maxHeartbeats 1600000 in
theorem closeHead_any (b hb cb k : Nat) (r : Nat) (t : TypeId) (g : G) (w : World) (hk : k < 64) (hg : Blk w b (arrG g) t) (hh : w.cell? ⟨hb, 0, none⟩ = some (.float .f32 r)) (hc : w.cell? ⟨cb, 0, none⟩ = some (.int .i64 k)) :
    Calls Try.prog 167 #[.pointer (some ⟨b, 0, none⟩), .pointer (some ⟨hb, 0, none⟩), .pointer (some ⟨cb, 0, none⟩)] w fun e w' => e = .returned (.tuple #[]) ∧ Blk w' b (arrG { g with h := upd g.h k r }) t ∧ w.grownBy w' (some b) := by
  have k1 : (k : Int) < 64 := by omega
  have HG := Lib.hid hg
  have p1 := fun x => ext_cell w x hh
  have p2 := fun x => ext_cell w x hc
  clear hg
  go_enter Try.func167, Try.ntmps167
  refine wp_soft_tail 6 (SF (some 0)) (by kernel_rfl) (by kernel_rfl) ?_
  simp only [List.take_succ_cons, List.take_zero, List.drop_succ_cons, List.drop_zero]
  repeat (refine soft_step (fun K hK => ?_); go_simp; (try go_bits); refine hK _ ?_; clear hK K)
  refine soft_nil ?_
  rintro w1 hw1
  have hb := hw1.below
  have HG := Lib.hid (HG.out.later hb)
  have HGR := Lib.hid (grown_below (r := some b) hb)
  clear hw1 hb p1 p2
  go_wp2_with ((with_reducible refine wpList_setH (r := r) HG.out hk ?_ ?_ ?_); rfl; rfl)
  intro w2 s2 b2 k2
  go_wp2_with fail
  go_end0
  exact ⟨rfl, b2, grown_trans HGR.out k2⟩

set_option maxRecDepth 100000 in
set_option maxHeartbeats 1600000 in
theorem changedHead_any (hb cb k : Nat) (r : Nat) (g : G) (w : World) (hr : g.Rng) (ho : okI g.m = true) (hk : IsCell g.m k) (ho' : okI (G.m { g with h := upd g.h k r }) = true) (hh : w.cell? ⟨hb, 0, none⟩ = some (.float .f32 r)) (hc : w.cell? ⟨cb, 0, none⟩ = some (.int .i64 k)) :
    Calls Try.prog 166 #[.agg (arrG g), .int .i64 k, .func (.func 167) #[] #[.pointer (some ⟨hb, 0, none⟩), .pointer (some ⟨cb, 0, none⟩)]] w (RetW { g with h := upd g.h k r } w) := by
  have HA := Lib.hid (ask_cell ho hk)
  have hk64 := hk.1
  have HO := Lib.hid ho'
  have lh : hb < w.heap.size := block_lt_of_cell hh
  have lc : cb < w.heap.size := block_lt_of_cell hc
  have hr' : G.Rng { g with h := upd g.h k r } := hr
  clear ho hk ho'
  go_enter Try.func166, Try.ntmps166
  go_wp2_with (with_reducible refine wpList_box rfl ?_)
  intro B wB hB1 hB2 hB3 hB4
  go_wp2_with (first | (with_reducible refine wpList_new newF ?_) | (with_reducible refine wpList_zero (zeroF _) ?_) | (with_reducible refine wpList_new newG ?_) | (with_reducible refine wpList_zero (zeroG _) ?_))
  intro A wA hA1 hA2 hA3 hA4
  have HG := Lib.hid (hB3.later hA4)
  have HAb := Lib.hid hA3
  have HW := Lib.hid (below_next hB4 hA4)
  have g1 := HG.out
  have hBA : B < A := by have := hB3.lt; omega
  have hAw : w.heap.size ≤ A := by have := hB4.size; omega
  clear hB3 hB4 hA3 hA4
  go_wp2_with fail
  refine (cellFault_any B _ k g wA hr HG.out).mono ?_
  rw [HA.out]
  rintro e w2 ⟨rfl, hb2⟩
  have HW := Lib.hid (below_next HW.out hb2)
  have b3 := HG.out.later hb2
  have HAb := Lib.hid (HAb.out.later hb2)
  clear hb2 g1 HG
  go_wp2_with fail
  refine (closeHead_any B hb cb k r _ g _ hk64 b3 (cell_below HW.out hh) (cell_below HW.out hc)).mono ?_
  rintro e w3 ⟨rfl, hG3, hgr⟩
  have HG3 := Lib.hid hG3
  have HAb := Lib.hid (HAb.out.grown hgr (by omega))
  have HW3 := Lib.hid (below_grown HW.out hgr HW.out.size (by omega))
  have g2 := hG3
  clear hgr b3 hG3 hh hc
  go_wp2_with ((with_reducible refine wpList_getG g2 ?_ ?_); rfl)
  refine (ValidGround_any _ _ hr').mono ?_
  rw [HO.out]
  rintro e w4 ⟨rfl, hb4⟩
  have HW4 := Lib.hid (below_next HW3.out hb4)
  have g3 := HG3.out.later hb4
  have a3 := HAb.out.later hb4
  clear hb4 g2
  go_wp2_with (first | ((with_reducible refine wpList_getG g3 ?_ ?_); rfl) | ((with_reducible refine wpList_putG (g := { g with h := upd g.h k r }) a3 ?_ ?_ ?_); rfl; rfl))
  intro w5 h51 h52 h53
  go_wp2_with fail
  exact ret_cell2 rfl rfl (loadG h52) rfl ⟨rfl, below_grown HW4.out h53 HW4.out.size hAw⟩

set_option maxRecDepth 100000 in
set_option maxHeartbeats 1600000 in
theorem WithHead_any (k : Nat) (r : Nat) (g : G) (w : World) (hr : g.Rng) (ho : okI g.m = true) (hk : IsCell g.m k) (ho' : okI (G.m { g with h := upd g.h k r }) = true) :
    Calls Try.prog 81 #[.agg (arrG g), .int .i64 k, .float .f32 r] w (RetW { g with h := upd g.h k r } w) := by
  have HO := Lib.hid ho
  have HO' := Lib.hid ho'
  have HK := Lib.hid hk
  clear ho ho' hk
  go_enter Try.func81, Try.ntmps81
  go_wp2_with (with_reducible refine wpList_box rfl ?_)
  intro B wB hB1 hB2 hB3 hB4
  go_wp2_with (with_reducible refine wpList_box1 (v := .int .i64 k) rfl rfl ?_)
  intro cb wc hc1 hc2 hc3 hc4
  go_wp2_with (with_reducible refine wpList_box1 (v := .float .f32 r) rfl rfl ?_)
  intro hb wh hh1 hh2 hh3 hh4
  go_wp2_with (first | (with_reducible refine wpList_new newF ?_) | (with_reducible refine wpList_zero (zeroF _) ?_) | (with_reducible refine wpList_new newG ?_) | (with_reducible refine wpList_zero (zeroG _) ?_))
  intro A wA hA1 hA2 hA3 hA4
  have g1 := ((hB3.later hc4).later hh4).later hA4
  have HC := Lib.hid (((hc3.later hh4).later hA4).at (i := 0) (v := .int .i64 k) rfl)
  have HH := Lib.hid ((hh3.later hA4).at (i := 0) (v := .float .f32 r) rfl)
  have HW := Lib.hid (below_next (below_next (below_next hB4 hc4) hh4) hA4)
  have HAb := Lib.hid hA3
  have hAw : w.heap.size ≤ A := by have := hB4.size; have := hc4.size; have := hh4.size; omega
  have c1 := HC.out
  clear hB3 hB4 hc3 hc4 hh3 hh4 hA3 hA4
  go_wp2_with ((with_reducible refine wpList_getG g1 ?_ ?_); rfl)
  refine (changedHead_any hb cb k r g wA hr HO.out HK.out HO'.out HH.out HC.out).mono ?_
  rintro e w2 ⟨rfl, hb2⟩
  have HW2 := Lib.hid (below_next HW.out hb2)
  have a3 := HAb.out.later hb2
  clear hb2 g1 c1
  go_wp2_with ((with_reducible refine wpList_putG (g := { g with h := upd g.h k r }) a3 ?_ ?_ ?_); rfl; rfl)
  intro w5 h51 h52 h53
  go_wp2_with fail
  exact ret_cell2 rfl rfl (loadG h52) rfl ⟨rfl, below_grown HW2.out h53 HW2.out.size hAw⟩

set_option maxRecDepth 100000 in
set_option maxHeartbeats 1600000 in
theorem closeGain_any (b hb cb k : Nat) (r : Nat) (t : TypeId) (g : G) (w : World) (hk : k < 64) (hg : Blk w b (arrG g) t) (hh : w.cell? ⟨hb, 0, none⟩ = some (.float .f32 r)) (hc : w.cell? ⟨cb, 0, none⟩ = some (.int .i64 k)) :
    Calls Try.prog 168 #[.pointer (some ⟨b, 0, none⟩), .pointer (some ⟨hb, 0, none⟩), .pointer (some ⟨cb, 0, none⟩)] w fun e w' => e = .returned (.tuple #[]) ∧ Blk w' b (arrG { g with g := upd g.g k r }) t ∧ w.grownBy w' (some b) := by
  have k1 : (k : Int) < 64 := by omega
  have HG := Lib.hid hg
  have p1 := fun x => ext_cell w x hh
  have p2 := fun x => ext_cell w x hc
  clear hg
  go_enter Try.func168, Try.ntmps168
  refine wp_soft_tail 6 (SF (some 0)) (by kernel_rfl) (by kernel_rfl) ?_
  simp only [List.take_succ_cons, List.take_zero, List.drop_succ_cons, List.drop_zero]
  repeat (refine soft_step (fun K hK => ?_); go_simp; (try go_bits); refine hK _ ?_; clear hK K)
  refine soft_nil ?_
  rintro w1 hw1
  have hb := hw1.below
  have HG := Lib.hid (HG.out.later hb)
  have HGR := Lib.hid (grown_below (r := some b) hb)
  clear hw1 hb p1 p2
  go_wp2_with ((with_reducible refine wpList_setG (k := 66 + k) (v := .float .f32 r) (g' := { g with g := upd g.g k r }) size32 HG.out ?_ ?_ ?_ ?_ ?_ ?_ ?_); (exact by omega); (exact fun i hi => cell_putG g hk r i hi); rfl; rfl; rfl; rfl)
  intro w2 s2 b2 k2
  go_wp2_with fail
  go_end0
  exact ⟨rfl, b2, grown_trans HGR.out k2⟩

set_option maxRecDepth 100000 in
set_option maxHeartbeats 1600000 in
theorem changedGain_any (hb cb k : Nat) (r : Nat) (g : G) (w : World) (hr : g.Rng) (ho : okI g.m = true) (hk : IsCell g.m k) (ho' : okI (G.m { g with g := upd g.g k r }) = true) (hh : w.cell? ⟨hb, 0, none⟩ = some (.float .f32 r)) (hc : w.cell? ⟨cb, 0, none⟩ = some (.int .i64 k)) :
    Calls Try.prog 166 #[.agg (arrG g), .int .i64 k, .func (.func 168) #[] #[.pointer (some ⟨hb, 0, none⟩), .pointer (some ⟨cb, 0, none⟩)]] w (RetW { g with g := upd g.g k r } w) := by
  have HA := Lib.hid (ask_cell ho hk)
  have hk64 := hk.1
  have HO := Lib.hid ho'
  have lh : hb < w.heap.size := block_lt_of_cell hh
  have lc : cb < w.heap.size := block_lt_of_cell hc
  have hr' : G.Rng { g with g := upd g.g k r } := hr
  clear ho hk ho'
  go_enter Try.func166, Try.ntmps166
  go_wp2_with (with_reducible refine wpList_box rfl ?_)
  intro B wB hB1 hB2 hB3 hB4
  go_wp2_with (first | (with_reducible refine wpList_new newF ?_) | (with_reducible refine wpList_zero (zeroF _) ?_) | (with_reducible refine wpList_new newG ?_) | (with_reducible refine wpList_zero (zeroG _) ?_))
  intro A wA hA1 hA2 hA3 hA4
  have HG := Lib.hid (hB3.later hA4)
  have HAb := Lib.hid hA3
  have HW := Lib.hid (below_next hB4 hA4)
  have g1 := HG.out
  have hBA : B < A := by have := hB3.lt; omega
  have hAw : w.heap.size ≤ A := by have := hB4.size; omega
  clear hB3 hB4 hA3 hA4
  go_wp2_with fail
  refine (cellFault_any B _ k g wA hr HG.out).mono ?_
  rw [HA.out]
  rintro e w2 ⟨rfl, hb2⟩
  have HW := Lib.hid (below_next HW.out hb2)
  have b3 := HG.out.later hb2
  have HAb := Lib.hid (HAb.out.later hb2)
  clear hb2 g1 HG
  go_wp2_with fail
  refine (closeGain_any B hb cb k r _ g _ hk64 b3 (cell_below HW.out hh) (cell_below HW.out hc)).mono ?_
  rintro e w3 ⟨rfl, hG3, hgr⟩
  have HG3 := Lib.hid hG3
  have HAb := Lib.hid (HAb.out.grown hgr (by omega))
  have HW3 := Lib.hid (below_grown HW.out hgr HW.out.size (by omega))
  have g2 := hG3
  clear hgr b3 hG3 hh hc
  go_wp2_with ((with_reducible refine wpList_getG g2 ?_ ?_); rfl)
  refine (ValidGround_any _ _ hr').mono ?_
  rw [HO.out]
  rintro e w4 ⟨rfl, hb4⟩
  have HW4 := Lib.hid (below_next HW3.out hb4)
  have g3 := HG3.out.later hb4
  have a3 := HAb.out.later hb4
  clear hb4 g2
  go_wp2_with (first | ((with_reducible refine wpList_getG g3 ?_ ?_); rfl) | ((with_reducible refine wpList_putG (g := { g with g := upd g.g k r }) a3 ?_ ?_ ?_); rfl; rfl))
  intro w5 h51 h52 h53
  go_wp2_with fail
  exact ret_cell2 rfl rfl (loadG h52) rfl ⟨rfl, below_grown HW4.out h53 HW4.out.size hAw⟩

set_option maxRecDepth 100000 in
set_option maxHeartbeats 1600000 in
theorem WithGain_any (k : Nat) (r : Nat) (g : G) (w : World) (hr : g.Rng) (ho : okI g.m = true) (hk : IsCell g.m k) (ho' : okI (G.m { g with g := upd g.g k r }) = true) :
    Calls Try.prog 82 #[.agg (arrG g), .int .i64 k, .float .f32 r] w (RetW { g with g := upd g.g k r } w) := by
  have HO := Lib.hid ho
  have HO' := Lib.hid ho'
  have HK := Lib.hid hk
  clear ho ho' hk
  go_enter Try.func82, Try.ntmps82
  go_wp2_with (with_reducible refine wpList_box rfl ?_)
  intro B wB hB1 hB2 hB3 hB4
  go_wp2_with (with_reducible refine wpList_box1 (v := .int .i64 k) rfl rfl ?_)
  intro cb wc hc1 hc2 hc3 hc4
  go_wp2_with (with_reducible refine wpList_box1 (v := .float .f32 r) rfl rfl ?_)
  intro hb wh hh1 hh2 hh3 hh4
  go_wp2_with (first | (with_reducible refine wpList_new newF ?_) | (with_reducible refine wpList_zero (zeroF _) ?_) | (with_reducible refine wpList_new newG ?_) | (with_reducible refine wpList_zero (zeroG _) ?_))
  intro A wA hA1 hA2 hA3 hA4
  have g1 := ((hB3.later hc4).later hh4).later hA4
  have HC := Lib.hid (((hc3.later hh4).later hA4).at (i := 0) (v := .int .i64 k) rfl)
  have HH := Lib.hid ((hh3.later hA4).at (i := 0) (v := .float .f32 r) rfl)
  have HW := Lib.hid (below_next (below_next (below_next hB4 hc4) hh4) hA4)
  have HAb := Lib.hid hA3
  have hAw : w.heap.size ≤ A := by have := hB4.size; have := hc4.size; have := hh4.size; omega
  have c1 := HC.out
  clear hB3 hB4 hc3 hc4 hh3 hh4 hA3 hA4
  go_wp2_with ((with_reducible refine wpList_getG g1 ?_ ?_); rfl)
  refine (changedGain_any hb cb k r g wA hr HO.out HK.out HO'.out HH.out HC.out).mono ?_
  rintro e w2 ⟨rfl, hb2⟩
  have HW2 := Lib.hid (below_next HW.out hb2)
  have a3 := HAb.out.later hb2
  clear hb2 g1 c1
  go_wp2_with ((with_reducible refine wpList_putG (g := { g with g := upd g.g k r }) a3 ?_ ?_ ?_); rfl; rfl)
  intro w5 h51 h52 h53
  go_wp2_with fail
  exact ret_cell2 rfl rfl (loadG h52) rfl ⟨rfl, below_grown HW2.out h53 HW2.out.size hAw⟩

set_option maxRecDepth 100000 in
set_option maxHeartbeats 1600000 in
theorem closeConduct_any (b hb cb k : Nat) (r : Nat) (t : TypeId) (g : G) (w : World) (hk : k < 64) (hg : Blk w b (arrG g) t) (hh : w.cell? ⟨hb, 0, none⟩ = some (.float .f32 r)) (hc : w.cell? ⟨cb, 0, none⟩ = some (.int .i64 k)) :
    Calls Try.prog 169 #[.pointer (some ⟨b, 0, none⟩), .pointer (some ⟨hb, 0, none⟩), .pointer (some ⟨cb, 0, none⟩)] w fun e w' => e = .returned (.tuple #[]) ∧ Blk w' b (arrG { g with c := upd g.c k r }) t ∧ w.grownBy w' (some b) := by
  have k1 : (k : Int) < 64 := by omega
  have HG := Lib.hid hg
  have p1 := fun x => ext_cell w x hh
  have p2 := fun x => ext_cell w x hc
  clear hg
  go_enter Try.func169, Try.ntmps169
  refine wp_soft_tail 6 (SF (some 0)) (by kernel_rfl) (by kernel_rfl) ?_
  simp only [List.take_succ_cons, List.take_zero, List.drop_succ_cons, List.drop_zero]
  repeat (refine soft_step (fun K hK => ?_); go_simp; (try go_bits); refine hK _ ?_; clear hK K)
  refine soft_nil ?_
  rintro w1 hw1
  have hb := hw1.below
  have HG := Lib.hid (HG.out.later hb)
  have HGR := Lib.hid (grown_below (r := some b) hb)
  clear hw1 hb p1 p2
  go_wp2_with ((with_reducible refine wpList_setG (k := 2 + k) (v := .float .f32 r) (g' := { g with c := upd g.c k r }) size32 HG.out ?_ ?_ ?_ ?_ ?_ ?_ ?_); (exact by omega); (exact fun i hi => cell_putC g hk r i hi); rfl; rfl; rfl; rfl)
  intro w2 s2 b2 k2
  go_wp2_with fail
  go_end0
  exact ⟨rfl, b2, grown_trans HGR.out k2⟩

set_option maxRecDepth 100000 in
set_option maxHeartbeats 1600000 in
theorem changedConduct_any (hb cb k : Nat) (r : Nat) (g : G) (w : World) (hr : g.Rng) (ho : okI g.m = true) (hk : IsCell g.m k) (ho' : okI (G.m { g with c := upd g.c k r }) = true) (hh : w.cell? ⟨hb, 0, none⟩ = some (.float .f32 r)) (hc : w.cell? ⟨cb, 0, none⟩ = some (.int .i64 k)) :
    Calls Try.prog 166 #[.agg (arrG g), .int .i64 k, .func (.func 169) #[] #[.pointer (some ⟨hb, 0, none⟩), .pointer (some ⟨cb, 0, none⟩)]] w (RetW { g with c := upd g.c k r } w) := by
  have HA := Lib.hid (ask_cell ho hk)
  have hk64 := hk.1
  have HO := Lib.hid ho'
  have lh : hb < w.heap.size := block_lt_of_cell hh
  have lc : cb < w.heap.size := block_lt_of_cell hc
  have hr' : G.Rng { g with c := upd g.c k r } := hr
  clear ho hk ho'
  go_enter Try.func166, Try.ntmps166
  go_wp2_with (with_reducible refine wpList_box rfl ?_)
  intro B wB hB1 hB2 hB3 hB4
  go_wp2_with (first | (with_reducible refine wpList_new newF ?_) | (with_reducible refine wpList_zero (zeroF _) ?_) | (with_reducible refine wpList_new newG ?_) | (with_reducible refine wpList_zero (zeroG _) ?_))
  intro A wA hA1 hA2 hA3 hA4
  have HG := Lib.hid (hB3.later hA4)
  have HAb := Lib.hid hA3
  have HW := Lib.hid (below_next hB4 hA4)
  have g1 := HG.out
  have hBA : B < A := by have := hB3.lt; omega
  have hAw : w.heap.size ≤ A := by have := hB4.size; omega
  clear hB3 hB4 hA3 hA4
  go_wp2_with fail
  refine (cellFault_any B _ k g wA hr HG.out).mono ?_
  rw [HA.out]
  rintro e w2 ⟨rfl, hb2⟩
  have HW := Lib.hid (below_next HW.out hb2)
  have b3 := HG.out.later hb2
  have HAb := Lib.hid (HAb.out.later hb2)
  clear hb2 g1 HG
  go_wp2_with fail
  refine (closeConduct_any B hb cb k r _ g _ hk64 b3 (cell_below HW.out hh) (cell_below HW.out hc)).mono ?_
  rintro e w3 ⟨rfl, hG3, hgr⟩
  have HG3 := Lib.hid hG3
  have HAb := Lib.hid (HAb.out.grown hgr (by omega))
  have HW3 := Lib.hid (below_grown HW.out hgr HW.out.size (by omega))
  have g2 := hG3
  clear hgr b3 hG3 hh hc
  go_wp2_with ((with_reducible refine wpList_getG g2 ?_ ?_); rfl)
  refine (ValidGround_any _ _ hr').mono ?_
  rw [HO.out]
  rintro e w4 ⟨rfl, hb4⟩
  have HW4 := Lib.hid (below_next HW3.out hb4)
  have g3 := HG3.out.later hb4
  have a3 := HAb.out.later hb4
  clear hb4 g2
  go_wp2_with (first | ((with_reducible refine wpList_getG g3 ?_ ?_); rfl) | ((with_reducible refine wpList_putG (g := { g with c := upd g.c k r }) a3 ?_ ?_ ?_); rfl; rfl))
  intro w5 h51 h52 h53
  go_wp2_with fail
  exact ret_cell2 rfl rfl (loadG h52) rfl ⟨rfl, below_grown HW4.out h53 HW4.out.size hAw⟩

set_option maxRecDepth 100000 in
set_option maxHeartbeats 1600000 in
theorem WithConduct_any (k : Nat) (r : Nat) (g : G) (w : World) (hr : g.Rng) (ho : okI g.m = true) (hk : IsCell g.m k) (ho' : okI (G.m { g with c := upd g.c k r }) = true) :
    Calls Try.prog 83 #[.agg (arrG g), .int .i64 k, .float .f32 r] w (RetW { g with c := upd g.c k r } w) := by
  have HO := Lib.hid ho
  have HO' := Lib.hid ho'
  have HK := Lib.hid hk
  clear ho ho' hk
  go_enter Try.func83, Try.ntmps83
  go_wp2_with (with_reducible refine wpList_box rfl ?_)
  intro B wB hB1 hB2 hB3 hB4
  go_wp2_with (with_reducible refine wpList_box1 (v := .int .i64 k) rfl rfl ?_)
  intro cb wc hc1 hc2 hc3 hc4
  go_wp2_with (with_reducible refine wpList_box1 (v := .float .f32 r) rfl rfl ?_)
  intro hb wh hh1 hh2 hh3 hh4
  go_wp2_with (first | (with_reducible refine wpList_new newF ?_) | (with_reducible refine wpList_zero (zeroF _) ?_) | (with_reducible refine wpList_new newG ?_) | (with_reducible refine wpList_zero (zeroG _) ?_))
  intro A wA hA1 hA2 hA3 hA4
  have g1 := ((hB3.later hc4).later hh4).later hA4
  have HC := Lib.hid (((hc3.later hh4).later hA4).at (i := 0) (v := .int .i64 k) rfl)
  have HH := Lib.hid ((hh3.later hA4).at (i := 0) (v := .float .f32 r) rfl)
  have HW := Lib.hid (below_next (below_next (below_next hB4 hc4) hh4) hA4)
  have HAb := Lib.hid hA3
  have hAw : w.heap.size ≤ A := by have := hB4.size; have := hc4.size; have := hh4.size; omega
  have c1 := HC.out
  clear hB3 hB4 hc3 hc4 hh3 hh4 hA3 hA4
  go_wp2_with ((with_reducible refine wpList_getG g1 ?_ ?_); rfl)
  refine (changedConduct_any hb cb k r g wA hr HO.out HK.out HO'.out HH.out HC.out).mono ?_
  rintro e w2 ⟨rfl, hb2⟩
  have HW2 := Lib.hid (below_next HW.out hb2)
  have a3 := HAb.out.later hb2
  clear hb2 g1 c1
  go_wp2_with ((with_reducible refine wpList_putG (g := { g with c := upd g.c k r }) a3 ?_ ?_ ?_); rfl; rfl)
  intro w5 h51 h52 h53
  go_wp2_with fail
  exact ret_cell2 rfl rfl (loadG h52) rfl ⟨rfl, below_grown HW2.out h53 HW2.out.size hAw⟩

set_option maxRecDepth 100000 in
set_option maxHeartbeats 1600000 in
theorem closeFixed_any (b hb cb k : Nat)  (t : TypeId) (g : G) (w : World) (hk : k < 64) (h0 : 0 ≤ g.fixed) (h1 : g.fixed < 18446744073709551616) (hg : Blk w b (arrG g) t) (hh : w.cell? ⟨hb, 0, none⟩ = some (.bool true)) (hc : w.cell? ⟨cb, 0, none⟩ = some (.int .i64 k)) (hne : b ≠ hb) (hne' : b ≠ cb) :
    Calls Try.prog 170 #[.pointer (some ⟨b, 0, none⟩), .pointer (some ⟨cb, 0, none⟩), .pointer (some ⟨hb, 0, none⟩)] w fun e w' => e = .returned (.tuple #[]) ∧ Blk w' b (arrG { g with fixed := orBit g.fixed k }) t ∧ w.grownBy w' (some b) := by
  have k1 : (k : Int) < 64 := by omega
  have HG := Lib.hid hg
  have l0 := (GAt.of_blk hg).fixed
  have p0 := fun x => ext_cell w x l0
  have p2 := fun x => ext_cell w x hc
  clear hg
  obtain ⟨y, hy⟩ : ∃ y, bits BinOp.andNot IntKind.u64 g.fixed (IntKind.u64.wrap (2 ^ k)) = y := ⟨_, rfl⟩
  have HY : Hid (bits BinOp.or IntKind.u64 y (IntKind.u64.wrap (2 ^ k)) = orBit g.fixed k) := by show _ = _; rw [← hy]; exact andNot_or h0 h1 hk
  go_enter Try.func170, Try.ntmps170
  go_wp2_with fail
  refine wp_soft_tail 9 (SF (some 0)) (by kernel_rfl) (by kernel_rfl) ?_
  simp only [List.take_succ_cons, List.take_zero, List.drop_succ_cons, List.drop_zero]
  repeat (refine soft_step (fun K hK => ?_); go_simp; (try go_bits); refine hK _ ?_; clear hK K)
  refine soft_nil ?_
  rintro w1 hw1
  have hb := hw1.below
  have HG := Lib.hid (HG.out.later hb)
  have HGR := Lib.hid (grown_below (r := some b) hb)
  have HH1 := Lib.hid (cell_below hb hh)
  have HC1 := Lib.hid (cell_below hb hc)
  clear hw1 hb p0 p2 l0 hh hc
  go_wp2_with ((with_reducible refine wpList_setG (k := 194) (v := .int .u64 y) (g' := { g with fixed := y }) sizeU HG.out ?_ ?_ ?_ ?_ ?_ ?_ ?_); (exact by omega); (exact fun i hi => cell_setFx g _ hi); rfl; rfl; rfl; (first | rfl | (rw [hy]; rfl)))
  intro w2 s2 b2 k2
  have HG2 := Lib.hid b2
  have hh := cell_grown HH1.out k2 (by omega)
  have hc := cell_grown HC1.out k2 (by omega)
  have HGR2 := Lib.hid (grown_trans HGR.out k2)
  have l0 := (GAt.of_blk b2).fixed
  clear b2 k2
  go_wp2_with fail
  have p0 := fun x => ext_cell w2 x l0
  have p2 := fun x => ext_cell w2 x hc
  refine wp_soft_tail 9 (SF (some 0)) (by kernel_rfl) (by kernel_rfl) ?_
  simp only [List.take_succ_cons, List.take_zero, List.drop_succ_cons, List.drop_zero]
  repeat (refine soft_step (fun K hK => ?_); go_simp; (try go_bits); refine hK _ ?_; clear hK K)
  refine soft_nil ?_
  rintro w3 hw3
  have hb := hw3.below
  have HG3 := Lib.hid (HG2.out.later hb)
  have HGR3 := Lib.hid (grown_trans HGR2.out (grown_below hb))
  clear hw3 hb p0 p2 l0 hh hc
  go_wp2_with ((with_reducible refine wpList_setG (k := 194) (v := .int .u64 (orBit g.fixed k)) (g' := { g with fixed := orBit g.fixed k }) sizeU HG3.out ?_ ?_ ?_ ?_ ?_ ?_ ?_); (exact by omega); (exact fun i hi => cell_setFx ({ g with fixed := y } : G) _ hi); rfl; rfl; rfl; (first | rfl | (rw [← HY.out]; rfl)))
  intro w4 s4 b4 k4
  go_wp2_with fail
  go_end0
  exact ⟨rfl, b4, grown_trans HGR3.out k4⟩

set_option maxRecDepth 100000 in
set_option maxHeartbeats 1600000 in
theorem changedFixed_any (hb cb k : Nat)  (g : G) (w : World) (hr : g.Rng) (ho : okI g.m = true) (hk : IsCell g.m k) (h0 : 0 ≤ g.fixed) (h1 : g.fixed < 18446744073709551616) (ho' : okI (G.m { g with fixed := orBit g.fixed k }) = true) (hh : w.cell? ⟨hb, 0, none⟩ = some (.bool true)) (hc : w.cell? ⟨cb, 0, none⟩ = some (.int .i64 k)) :
    Calls Try.prog 166 #[.agg (arrG g), .int .i64 k, .func (.func 170) #[] #[.pointer (some ⟨cb, 0, none⟩), .pointer (some ⟨hb, 0, none⟩)]] w (RetW { g with fixed := orBit g.fixed k } w) := by
  have HA := Lib.hid (ask_cell ho hk)
  have hk64 := hk.1
  have HO := Lib.hid ho'
  have lh : hb < w.heap.size := block_lt_of_cell hh
  have lc : cb < w.heap.size := block_lt_of_cell hc
  have hr' : G.Rng { g with fixed := orBit g.fixed k } := hr
  clear ho hk ho'
  go_enter Try.func166, Try.ntmps166
  go_wp2_with (with_reducible refine wpList_box rfl ?_)
  intro B wB hB1 hB2 hB3 hB4
  go_wp2_with (first | (with_reducible refine wpList_new newF ?_) | (with_reducible refine wpList_zero (zeroF _) ?_) | (with_reducible refine wpList_new newG ?_) | (with_reducible refine wpList_zero (zeroG _) ?_))
  intro A wA hA1 hA2 hA3 hA4
  have HG := Lib.hid (hB3.later hA4)
  have HAb := Lib.hid hA3
  have HW := Lib.hid (below_next hB4 hA4)
  have g1 := HG.out
  have hBA : B < A := by have := hB3.lt; omega
  have hAw : w.heap.size ≤ A := by have := hB4.size; omega
  clear hB3 hB4 hA3 hA4
  go_wp2_with fail
  refine (cellFault_any B _ k g wA hr HG.out).mono ?_
  rw [HA.out]
  rintro e w2 ⟨rfl, hb2⟩
  have HW := Lib.hid (below_next HW.out hb2)
  have b3 := HG.out.later hb2
  have HAb := Lib.hid (HAb.out.later hb2)
  clear hb2 g1 HG
  go_wp2_with fail
  refine (closeFixed_any B hb cb k  _ g _ hk64 h0 h1 b3 (cell_below HW.out hh) (cell_below HW.out hc) (by omega) (by omega)).mono ?_
  rintro e w3 ⟨rfl, hG3, hgr⟩
  have HG3 := Lib.hid hG3
  have HAb := Lib.hid (HAb.out.grown hgr (by omega))
  have HW3 := Lib.hid (below_grown HW.out hgr HW.out.size (by omega))
  have g2 := hG3
  clear hgr b3 hG3 hh hc
  go_wp2_with ((with_reducible refine wpList_getG g2 ?_ ?_); rfl)
  refine (ValidGround_any _ _ hr').mono ?_
  rw [HO.out]
  rintro e w4 ⟨rfl, hb4⟩
  have HW4 := Lib.hid (below_next HW3.out hb4)
  have g3 := HG3.out.later hb4
  have a3 := HAb.out.later hb4
  clear hb4 g2
  go_wp2_with (first | ((with_reducible refine wpList_getG g3 ?_ ?_); rfl) | ((with_reducible refine wpList_putG (g := { g with fixed := orBit g.fixed k }) a3 ?_ ?_ ?_); rfl; rfl))
  intro w5 h51 h52 h53
  go_wp2_with fail
  exact ret_cell2 rfl rfl (loadG h52) rfl ⟨rfl, below_grown HW4.out h53 HW4.out.size hAw⟩

set_option maxRecDepth 100000 in
set_option maxHeartbeats 1600000 in
theorem WithFixed_any (k : Nat)  (g : G) (w : World) (hr : g.Rng) (ho : okI g.m = true) (hk : IsCell g.m k) (h0 : 0 ≤ g.fixed) (h1 : g.fixed < 18446744073709551616) (ho' : okI (G.m { g with fixed := orBit g.fixed k }) = true) :
    Calls Try.prog 84 #[.agg (arrG g), .int .i64 k, .bool true] w (RetW { g with fixed := orBit g.fixed k } w) := by
  have HO := Lib.hid ho
  have HO' := Lib.hid ho'
  have HK := Lib.hid hk
  clear ho ho' hk
  go_enter Try.func84, Try.ntmps84
  go_wp2_with (with_reducible refine wpList_box rfl ?_)
  intro B wB hB1 hB2 hB3 hB4
  go_wp2_with (with_reducible refine wpList_box1 (v := .int .i64 k) rfl rfl ?_)
  intro cb wc hc1 hc2 hc3 hc4
  go_wp2_with (with_reducible refine wpList_box1 (v := .bool true) rfl rfl ?_)
  intro hb wh hh1 hh2 hh3 hh4
  go_wp2_with (first | (with_reducible refine wpList_new newF ?_) | (with_reducible refine wpList_zero (zeroF _) ?_) | (with_reducible refine wpList_new newG ?_) | (with_reducible refine wpList_zero (zeroG _) ?_))
  intro A wA hA1 hA2 hA3 hA4
  have g1 := ((hB3.later hc4).later hh4).later hA4
  have HC := Lib.hid (((hc3.later hh4).later hA4).at (i := 0) (v := .int .i64 k) rfl)
  have HH := Lib.hid ((hh3.later hA4).at (i := 0) (v := .bool true) rfl)
  have HW := Lib.hid (below_next (below_next (below_next hB4 hc4) hh4) hA4)
  have HAb := Lib.hid hA3
  have hAw : w.heap.size ≤ A := by have := hB4.size; have := hc4.size; have := hh4.size; omega
  have c1 := HC.out
  clear hB3 hB4 hc3 hc4 hh3 hh4 hA3 hA4
  go_wp2_with ((with_reducible refine wpList_getG g1 ?_ ?_); rfl)
  refine (changedFixed_any hb cb k  g wA hr HO.out HK.out h0 h1 HO'.out HH.out HC.out).mono ?_
  rintro e w2 ⟨rfl, hb2⟩
  have HW2 := Lib.hid (below_next HW.out hb2)
  have a3 := HAb.out.later hb2
  clear hb2 g1 c1
  go_wp2_with ((with_reducible refine wpList_putG (g := { g with fixed := orBit g.fixed k }) a3 ?_ ?_ ?_); rfl; rfl)
  intro w5 h51 h52 h53
  go_wp2_with fail
  exact ret_cell2 rfl rfl (loadG h52) rfl ⟨rfl, below_grown HW2.out h53 HW2.out.size hAw⟩
end Go.Proofs.Ytfcphfdfpjmgiaa
