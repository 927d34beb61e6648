/- The law on balances: its walk. -/
import Derived.Test.YtfcphfdfpjmgiaaWith
import Derived.Test.YtfcphfdfpjmgiaaA2S
import Derived.Deep.CutRange
namespace Go.Proofs.Ytfcphfdfpjmgiaa
open Go.RowKit

theorem below_toB {w wr w' : World} (h : Below w.heap.size w wr) (h2 : Below wr.heap.size wr w') : Below w.heap.size w w' := h.trans (h2.mono h.size)
theorem qB_fits_all : ∀ n : Fin 105, qB ((n.val : Int) - 32) < 4294967296 := by decide +kernel
theorem Drawn.gfits {g : G} (h : Drawn g) (k : Nat) : Fits (g.m.g k) := by
  show Fits (fm g.g k)
  by_cases hk : k < 64
  · rw [fm_of hk]
    cases hh : hasB g.wide g.high k
    · rw [(h.out k hk hh).2.1, fb0]
      intro b e; cases e; decide
    · obtain ⟨_, ⟨z, h1, h2, e⟩, _⟩ := h.cell k hk hh
      rw [e, (qF_eq h1 (by omega)).2]
      intro b hb
      cases hb
      have := qB_fits_all ⟨(z + 32).toNat, by omega⟩
      have e2 : (((z + 32).toNat : Nat) : Int) - 32 = z := by omega
      rwa [e2] at this
  · unfold fm; rw [if_neg hk]
    intro b e; cases e
theorem andNot_sub {x y : Nat} (hx : x < 2 ^ 64) (hy : y < 2 ^ 64) (h : Sub x y) : bits BinOp.andNot IntKind.u64 (x : Int) (y : Int) = 0 := by
  rw [u64_andNot_nat _ _ hx hy]
  have : x &&& (18446744073709551615 - y) = 0 := by
    apply Nat.eq_of_testBit_eq
    intro i
    rw [Nat.zero_testBit, Nat.testBit_and]
    have h3 : (2 ^ 64 - 1 - y).testBit i = (decide (i < 64) && !y.testBit i) := by
      have := Nat.testBit_two_pow_sub_succ (x := y) (n := 64) hy i
      rw [show 2 ^ 64 - 1 - y = 2 ^ 64 - (y + 1) by omega]
      exact this
    rw [show (18446744073709551615 : Nat) = 2 ^ 64 - 1 from rfl, h3]
    cases e : x.testBit i
    · rfl
    · rw [h i e]; simp
  rw [this]; rfl
section
variable {ops : Array Oper} {Q : Exit → Act → World → Prop} {rest : List Oper} {a : Act} {w : World} {dst : Option Tmp} {ty : TypeId} {X : Operand} {pos : String} {after : Array Edge} {B : Nat} {t : TypeId} {gd : Option (Nat × Bool)}
theorem wpList_getGonB {x : G} (hgd : Region.wanted ⟨dst, .load 30 X, ty, pos, after, gd⟩ (yielded ops a.tmps) = true) (hg : Blk w B (arrG x) t) (hx : a.eval X = .pointer (some ⟨B, 0, none⟩))
    (h : wpList Try.prog ops Q rest (a.put dst (.agg (arrG x))) w) : wpList Try.prog ops Q (⟨dst, .load 30 X, ty, pos, after, gd⟩ :: rest) a w := by
  refine wpList_step fun K hK => ?_
  rw [if_pos hgd]
  unfold Oper.wp
  have hl := loadG hg
  have : (execOp a.eval ⟨dst, .load 30 X, ty, pos, after, gd⟩).run Try.prog w = .ok (.value (.agg (arrG x))) w := by
    simp only [execOp, hx, Instr.loadAt, Instr.sureAddr]
    simp [hl]
  rw [this]
  exact hK _ _ h
theorem wpList_getFonB {x : Nat → Nat} (hgd : Region.wanted ⟨dst, .load 27 X, ty, pos, after, gd⟩ (yielded ops a.tmps) = true) (hg : Blk w B (arrF x) t) (hx : a.eval X = .pointer (some ⟨B, 0, none⟩))
    (h : wpList Try.prog ops Q rest (a.put dst (.agg (arrF x))) w) : wpList Try.prog ops Q (⟨dst, .load 27 X, ty, pos, after, gd⟩ :: rest) a w := by
  refine wpList_step fun K hK => ?_
  rw [if_pos hgd]
  unfold Oper.wp
  have hl := loadF hg
  have : (execOp a.eval ⟨dst, .load 27 X, ty, pos, after, gd⟩).run Try.prog w = .ok (.value (.agg (arrF x))) w := by
    simp only [execOp, hx, Instr.loadAt, Instr.sureAddr]
    simp [hl]
  rw [this]
  exact hK _ _ h
end

theorem worst_same {g : G} (N : Nums g.m) (ho : okI g.m = true) {za zc : Int} {xf : F} (h : worstR g.m = (za, xf, zc)) :
    ∀ k, IsCell g.m k → fixB g.fixed k = false → zc = 0 ∧ fgt (fabs (balTo g.m k 4)) (fabs xf) = false := by
  intro k hk hf
  have hs := sized_of ho
  obtain ⟨b, hb, h1, h2⟩ := worst_ok N hs hk hf
  unfold worstR at h
  rw [ho, bals_fin N hs, h1] at h
  have h : ((b : Int), balF g.m (cellsM g.m) b, (0 : Int)) = (za, xf, zc) := h
  rw [balF_at hb] at h
  cases h
  exact ⟨rfl, h2⟩
theorem cells_bit (m : M) {i : Nat} (hi : i < 64) : (((bitsL (cellsM m)) / 2 ^ i).tmod 2 == 1) = hasB m.wide m.high i := by
  rw [bitsL_been (fun c hc => cells64 hc), bit_mod, beenN_bit]
  cases e : hasB m.wide m.high i
  · exact decide_eq_false fun h => by have := (mem_cellsS.1 h).2; rw [e] at this; cases this
  · exact decide_eq_true (mem_cellsS.2 ⟨hi, e⟩)
def BlRel (w wL : World) (v22 : Value) (wr : World) : Prop := ∃ i : Nat, i ≤ 64 ∧ v22 = .int .i64 i ∧ Below w.heap.size w wr ∧ Below wL.heap.size wL wr
def BsRel (m : M) (X i : Nat) (w wL : World) (v25 v26 v27 : Value) (wr : World) : Prop :=
  ∃ (s r : Nat) (t : Bool), s ≤ 4 ∧ v27 = .int .i64 s ∧ v25 = .float .f32 r ∧ Is r (rest m i s) ∧ v26 = .bool t ∧ t = touB m X i s ∧ Below w.heap.size w wr ∧ Below wL.heap.size wL wr
set_option maxRecDepth 1000000 in
set_option maxHeartbeats 32000000 in
theorem law_Balances (v v' : Value) (n n' : Nat) (w : World) (hn0 : n < 9223372036854775808) (hn0' : n' < 9223372036854775808) (hv : BytesAt w v n) (hv' : BytesAt w v' n') :
    Calls Try.prog 9 #[v, v'] w (RetB true w) := by
  have s1 : ∃ a cap, v = .slice a n cap := by obtain ⟨a, cap, e, _⟩ := hv; exact ⟨a, cap, e⟩
  have s2 : ∃ a cap, v' = .slice a n' cap := by obtain ⟨a, cap, e, _⟩ := hv'; exact ⟨a, cap, e⟩
  have HV := Lib.hid hv
  have HS1 := Lib.hid s1
  have HS2 := Lib.hid s2
  have HV' := Lib.hid hv'
  clear hv hv' s1 s2
  by_cases hlong : 3000 < n ∨ 3000 < n'
  · have hl : Hid ((decide (3000 < n) || decide (3000 < n')) = true) := by
      show _ = true
      rcases hlong with h | h
      · rw [decide_eq_true h]; rfl
      · rw [decide_eq_true h, Bool.or_true]
    clear hlong
    go_enter Try.func9, Try.ntmps9
    go_wp2_with fail
    refine (a2Long_any v v' n n' w HS1.out HS2.out hn0 hn0').mono ?_
    rw [hl.out]
    rintro e w1 ⟨rfl, rfl⟩
    go_wp2_with fail
    go_ret
    exact ⟨rfl, Below.refl _ _⟩
  have hl : Hid ((decide (3000 < n) || decide (3000 < n')) = false) := by
    show _ = false
    rw [decide_eq_false (by omega), decide_eq_false (by omega)]; rfl
  have hn : n ≤ 4096 := by omega
  have hn' : n' ≤ 4096 := by omega
  clear hlong
  go_enter Try.func9, Try.ntmps9
  go_wp2_with fail
  refine (a2Long_any v v' n n' w HS1.out HS2.out hn0 hn0').mono ?_
  rw [hl.out]
  rintro e w1 ⟨rfl, rfl⟩
  go_wp2_with fail
  refine (A2Ground_any v n w hn HV.out).mono ?_
  rintro e wA ⟨g, rfl, hd, hb1⟩
  have HB := Lib.hid hb1
  have HD := Lib.hid hd
  have hr := hd.rng
  have HX := Lib.hid hd.fxr
  have HO := Lib.hid hd.ok
  obtain ⟨N⟩ := hd.nums
  have hsz := sized_of hd.ok
  have HBC : Hid (boC g.m = 0) := by show _ = _; unfold boC; rw [hd.ok, bals_fin N hsz]; rfl
  have HBF : Hid (boF g.m = balF g.m (cellsM g.m)) := by show _ = _; unfold boF; rw [hd.ok, bals_fin N hsz]; rfl
  have HFT := Lib.hid hd.gfits
  have HFO := Lib.hid (hd.fedOk N)
  obtain ⟨⟨za, xf, zc⟩, ht⟩ : ∃ t, worstR g.m = t := ⟨_, rfl⟩
  have HWO := Lib.hid (worst_same N hd.ok ht)
  have HWT := Lib.hid ht
  obtain ⟨X, hX⟩ : ∃ X, fedW g.m = X := ⟨_, rfl⟩
  rw [hX] at HFO
  have HX2 := Lib.hid hX
  obtain ⟨Y, hY⟩ : ∃ Y : Int, ((X : Nat) : Int) = Y := ⟨_, rfl⟩
  obtain ⟨cw, hcw⟩ : ∃ cw : Int, bitsL (cellsM g.m) = cw := ⟨_, rfl⟩
  have HA1 : Hid (bits BinOp.andNot IntKind.u64 Y cw = 0) := by
    show _ = _
    rw [← hY, ← hcw, bitsL_been (fun c hc => cells64 hc)]
    refine andNot_sub (inC_lt HFO.out.inC) (beenN_lt (fun c hc => cells64 hc)) fun j hj => ?_
    rw [beenN_bit]; exact decide_eq_true (mem_cellsS.2 (HFO.out.inC j hj))
  have HA2 : Hid (bits BinOp.andNot IntKind.u64 g.fixed Y = 0) := by
    show _ = _
    have h0 := hd.fxr
    rw [← hY, show g.fixed = ((g.fixed.toNat : Nat) : Int) by have := h0.1; omega]
    refine andNot_sub (by have := h0.1; have := h0.2; omega) (inC_lt HFO.out.inC) HFO.out.sub
  have HYB : Hid (∀ k, ((Y / 2 ^ k).tmod 2 == 1) = X.testBit k) := fun k => by rw [← hY]; exact bit_mod X k
  have HCB : Hid (∀ k, k < 64 → ((cw / 2 ^ k).tmod 2 == 1) = hasB g.wide g.high k) := fun k hk => by rw [← hcw]; exact cells_bit g.m hk
  have HYE := Lib.hid hY
  have HCE := Lib.hid hcw
  clear hb1 hd hsz ht hX hY hcw
  go_wp2_with (first | (with_reducible refine wpList_new newF ?_) | (with_reducible refine wpList_zero (zeroF _) ?_) | (with_reducible refine wpList_new newG ?_) | (with_reducible refine wpList_zero (zeroG _) ?_))
  intro B wB hB1 hB2 hB3 hB4
  have HBn := Lib.hid (below_toB HB.out hB4)
  have hwB : w.heap.size ≤ B := by have := HB.out.size; omega
  clear hB4
  go_wp2_with ((with_reducible refine wpList_putG (g := g) hB3 ?_ ?_ ?_); rfl; rfl)
  intro wC sC bC kC
  have HB := Lib.hid (below_grown HBn.out kC HBn.out.size hwB)
  have HG := Lib.hid bC
  clear hB3 kC bC
  have ld := HG.out
  go_wp2_with ((with_reducible refine wpList_getG ld ?_ ?_); rfl)
  refine (BalancesOf_any g _ hr).mono ?_
  rw [HBC.out, HBF.out]
  rintro e wa1 ⟨f1, rfl, hf, hb⟩
  have HB := Lib.hid (below_toB HB.out hb)
  have HG := Lib.hid (HG.out.later hb)
  have HF1 := Lib.hid hf
  clear ld hf hb
  go_wp2_with (first | (with_reducible refine wpList_new newF ?_) | (with_reducible refine wpList_zero (zeroF _) ?_) | (with_reducible refine wpList_new newG ?_) | (with_reducible refine wpList_zero (zeroG _) ?_))
  intro B6 wb1 q1 q2 q3 q4
  have HBn := Lib.hid (below_toB HB.out q4)
  have hwB6 : w.heap.size ≤ B6 := by have := HB.out.size; omega
  have hneB6B : B < B6 := by have := HG.out.lt; omega
  have HG := Lib.hid (HG.out.later q4)
  clear q4
  go_wp2_with ((with_reducible refine wpList_putF (f := f1) q3 ?_ ?_ ?_); rfl; rfl)
  intro wc1 sc bc kc
  have HB := Lib.hid (below_grown HBn.out kc HBn.out.size hwB6)
  have HG := Lib.hid (HG.out.grown kc (by omega))
  have HG1 := Lib.hid bc
  clear q3 bc kc sc hneB6B
  have ld := HG.out
  go_wp2_with ((with_reducible refine wpList_getG ld ?_ ?_); rfl)
  refine (specBalancesOf_any g _ hr).mono ?_
  rw [HBC.out, HBF.out]
  rintro e wa2 ⟨f2, rfl, hf, hb⟩
  have HB := Lib.hid (below_toB HB.out hb)
  have HG := Lib.hid (HG.out.later hb)
  have HG1 := Lib.hid (HG1.out.later hb)
  have HF2 := Lib.hid hf
  clear ld hf hb
  go_wp2_with (first | (with_reducible refine wpList_new newF ?_) | (with_reducible refine wpList_zero (zeroF _) ?_) | (with_reducible refine wpList_new newG ?_) | (with_reducible refine wpList_zero (zeroG _) ?_))
  intro B8 wb2 q1 q2 q3 q4
  have HBn := Lib.hid (below_toB HB.out q4)
  have hwB8 : w.heap.size ≤ B8 := by have := HB.out.size; omega
  have hneB8B : B < B8 := by have := HG.out.lt; omega
  have hneB8B6 : B6 < B8 := by have := HG1.out.lt; omega
  have HG := Lib.hid (HG.out.later q4)
  have HG1 := Lib.hid (HG1.out.later q4)
  clear q4
  go_wp2_with ((with_reducible refine wpList_putF (f := f2) q3 ?_ ?_ ?_); rfl; rfl)
  intro wc2 sc bc kc
  have HB := Lib.hid (below_grown HBn.out kc HBn.out.size hwB8)
  have HG := Lib.hid (HG.out.grown kc (by omega))
  have HG1 := Lib.hid (HG1.out.grown kc (by omega))
  have HG2 := Lib.hid bc
  clear q3 bc kc sc hneB8B hneB8B6
  have ld := HG.out
  go_wp2_with ((with_reducible refine wpList_getG ld ?_ ?_); rfl)
  refine (WorstBalance_any g _ hr HX.out HFT.out).mono ?_
  rw [HWT.out]
  rintro e wa3 ⟨r1, rfl, hr1, hb⟩
  have HB := Lib.hid (below_toB HB.out hb)
  have HG := Lib.hid (HG.out.later hb)
  have HG1 := Lib.hid (HG1.out.later hb)
  have HG2 := Lib.hid (HG2.out.later hb)
  have HR1 := Lib.hid hr1
  clear hr1
  clear ld hb
  have ld := HG.out
  go_wp2_with ((with_reducible refine wpList_getG ld ?_ ?_); rfl)
  refine (specWorstBalance_any g _ hr HX.out).mono ?_
  rw [HWT.out]
  rintro e wa4 ⟨r2, rfl, hr2, hb⟩
  have HB := Lib.hid (below_toB HB.out hb)
  have HG := Lib.hid (HG.out.later hb)
  have HG1 := Lib.hid (HG1.out.later hb)
  have HG2 := Lib.hid (HG2.out.later hb)
  have HR2 := Lib.hid hr2
  clear hr2
  clear ld hb
  have ld := HG.out
  go_wp2_with ((with_reducible refine wpList_getG ld ?_ ?_); rfl)
  refine (FedCells_any g _ HD.out).mono ?_
  rw [HX2.out, HYE.out]
  rintro e wa5 ⟨rfl, hb⟩
  have HB := Lib.hid (below_toB HB.out hb)
  have HG := Lib.hid (HG.out.later hb)
  have HG1 := Lib.hid (HG1.out.later hb)
  have HG2 := Lib.hid (HG2.out.later hb)
  clear ld hb
  have ld := HG.out
  go_wp2_with ((with_reducible refine wpList_getG ld ?_ ?_); rfl)
  refine (specFedCells_any g _ HD.out).mono ?_
  rw [HX2.out, HYE.out]
  rintro e wa6 ⟨rfl, hb⟩
  have HB := Lib.hid (below_toB HB.out hb)
  have HG := Lib.hid (HG.out.later hb)
  have HG1 := Lib.hid (HG1.out.later hb)
  have HG2 := Lib.hid (HG2.out.later hb)
  clear ld hb
  have ld := HG.out
  go_wp2_with ((with_reducible refine wpList_getG ld ?_ ?_); rfl)
  refine (CellsOf_any g _ hr HO.out).mono ?_
  rw [HCE.out]
  rintro e wa7 ⟨rfl, hb⟩
  have HB := Lib.hid (below_toB HB.out hb)
  have HG := Lib.hid (HG.out.later hb)
  have HG1 := Lib.hid (HG1.out.later hb)
  have HG2 := Lib.hid (HG2.out.later hb)
  clear ld hb
  have l1 := HG1.out
  have l2 := HG2.out
  have hap1 := HA1.out
  have hap2 := HA2.out
  have l0 := (GAt.of_blk HG.out).fixed
  simp only [Nat.zero_add] at l0
  go_wp2_with (first | ((with_reducible refine wpList_getFonB ?_ l1 ?_ ?_); (exact rfl); rfl) | ((with_reducible refine wpList_getFonB ?_ l2 ?_ ?_); (exact rfl); rfl))
  refine (SameField_eq f1 f2 _ (HF1.out.trans HF2.out.symm)).mono ?_
  rintro e ws ⟨rfl, hb⟩
  have HB := Lib.hid (below_toB HB.out hb)
  have HG := Lib.hid (HG.out.later hb)
  have HG1 := Lib.hid (HG1.out.later hb)
  have HG2 := Lib.hid (HG2.out.later hb)
  have l0 := (GAt.of_blk HG.out).fixed
  simp only [Nat.zero_add] at l0
  clear hb l1 l2
  go_wp2_with fail
  refine (SameNumber_eq r1 r2 _ (HR1.out.out.trans HR2.out.out.symm)).mono ?_
  rintro e wt ⟨rfl, rfl⟩
  go_wp2_with fail
  have HGL := HG
  have HG2L := HG2
  have HBw := HB
  clear HB HG HG2 HG1 HF1 hap1 hap2 l0
  go_loopw [22] (fun v22 wr => BlRel w ws v22 wr) (fun v22 _ => 64 - (intOf v22).toNat)
  case atStart => exact ⟨0, by omega, rfl, HBw.out, Below.refl _ _⟩
  case round =>
    as_aux_lemma =>
    obtain ⟨i, hi, rfl, hB, hBL⟩ := hrel
    have HBr := Lib.hid hB
    have HBL := Lib.hid hBL
    have HGr := Lib.hid (HGL.out.below hBL HGL.out.lt)
    have HG2r := Lib.hid (HG2L.out.below hBL HG2L.out.lt)
    have b1 := HGr.out
    clear hB hBL
    by_cases hil : i < 64
    · have i1 : (i : Int) < 64 := by omega
      have hcb := HCB.out i hil
      have HDU0 : Hid (IsCell g.m i → Is (f2 i) (balTo g.m i 4)) := fun hc => by
        show fb (f2 i) = _
        rw [← balF_at hc, ← HF2.out]; exact (fm_of hil).symm
      cases hh : hasB g.wide g.high i
      · have HH := Lib.hid hh
        rw [hh] at hcb
        clear hh
        go_wp2_with (first | ((with_reducible refine wpList_getG b1 ?_ ?_); rfl) | (go_at_call 25; refine (A2Is_any g i _ hr hil).mono ?_; rw [HH.out]; rintro e w12 ⟨rfl, hb12⟩; have HBr := Lib.hid (below_toB HBr.out hb12); have HBL := Lib.hid (below_toB HBL.out hb12); have b1 := b1.later hb12; clear hb12))
        go_roundw
        case rel => exact ⟨i + 1, by omega, by go_num, HBr.out, HBL.out⟩
        case measure => simp [intOf]; omega
      · have HH := Lib.hid hh
        have hc : IsCell g.m i := ⟨hil, hh⟩
        rw [hh] at hcb
        have HDU := Lib.hid (HDU0.out hc)
        clear hh HDU0
        go_wp2_with ((with_reducible refine wpList_getG b1 ?_ ?_); rfl)
        refine (A2Is_any g i _ hr hil).mono ?_
        rw [HH.out]
        rintro e wb1 ⟨rfl, hb⟩
        have HBr := Lib.hid (below_toB HBr.out hb)
        have HBL := Lib.hid (below_toB HBL.out hb)
        have HGr := Lib.hid (HGr.out.later hb)
        have HG2r := Lib.hid (HG2r.out.later hb)
        have b1 := HGr.out
        clear hb
        go_wp2_with ((with_reducible refine wpList_getG b1 ?_ ?_); rfl)
        refine (A2Is_any g i _ hr hil).mono ?_
        rw [HH.out]
        rintro e wb2 ⟨rfl, hb⟩
        have HBr := Lib.hid (below_toB HBr.out hb)
        have HBL := Lib.hid (below_toB HBL.out hb)
        have HGr := Lib.hid (HGr.out.later hb)
        have HG2r := Lib.hid (HG2r.out.later hb)
        have b1 := HGr.out
        clear hb
        go_wp2_with ((with_reducible refine wpList_getG b1 ?_ ?_); rfl)
        refine (BalanceAt_any i g _ HD.out.sane HO.out hc (bal_fin N (sized_of HO.out) hc)).mono ?_
        rintro e wb3 ⟨ro, rfl, hro, hb⟩
        have HBr := Lib.hid (below_toB HBr.out hb)
        have HBL := Lib.hid (below_toB HBL.out hb)
        have HGr := Lib.hid (HGr.out.later hb)
        have HG2r := Lib.hid (HG2r.out.later hb)
        have b1 := HGr.out
        have HRO := Lib.hid hro
        clear hb hro
        have l8 := HG2r.out.at (arrF_get f2 hil)
        have l0 := (GAt.of_blk HGr.out).fixed
        have l3 := (GAt.of_blk HGr.out).g (k := i) hil
        simp only [Nat.zero_add] at l0 l3
        obtain ⟨r0, r1'⟩ := shr_range i HD.out.sane.f0 HD.out.sane.f1
        obtain ⟨t0, ht0⟩ : ∃ t0, fixB g.fixed i = t0 := ⟨_, rfl⟩
        have hfx1 : (g.fixed / 2 ^ i % 2 == 1) = t0 := by rw [← ht0]; unfold fixB; rw [Bool.beq_eq_decide_eq]
        have HT0 := Lib.hid ht0
        clear ht0
        go_wp2_with fail
        refine (SameNumber_eq ro (f2 i) _ (HRO.out.out.trans HDU.out.out.symm)).mono ?_
        rintro e wb4 ⟨rfl, rfl⟩
        go_wp2_with (((with_reducible refine wpList_gate ?_); refine wpList_arith _ _ rfl rfl rfl ?_; intro r n hrr))
        have HR0 : Hid (Is r (rest g.m i 0)) := hrr.op (show Is (g.g i) (g.m.g i) from (fm_of hil).symm) HRO.out
        clear hrr l8 l0 l3 r0 r1' hfx1 hcb b1
        go_loopw [25, 26, 27] (fun v25 v26 v27 wr => BsRel g.m X i w ws v25 v26 v27 wr) (fun _ _ v27 _ => 4 - (intOf v27).toNat)
        case atStart => exact ⟨0, _, _, by omega, rfl, rfl, HR0.out, rfl, HT0.out.symm, below_drawn HBr.out _, below_drawn HBL.out _⟩
        case round =>
          as_aux_lemma =>
          obtain ⟨s, rs, t, hs, rfl, rfl, hrs, rfl, htt, hB, hB2⟩ := hrel
          have HBs := Lib.hid hB
          have HBLs := Lib.hid hB2
          have HGs := Lib.hid (HGL.out.below hB2 HGL.out.lt)
          have HRS := Lib.hid hrs
          have HTT := Lib.hid htt
          have b1 := HGs.out
          clear hB hrs htt
          by_cases hs4 : s < 4
          · have s1 : (s : Int) < 4 := by omega
            clear hB2
            go_wp2_with ((with_reducible refine wpList_getG b1 ?_ ?_); rfl)
            refine (specFlowFrom_any i s g _ HD.out.sane HO.out hc hs4).mono ?_
            rintro e wd0 ⟨rf, rfl, hrf, hb⟩
            have HBs := Lib.hid (below_toB HBs.out hb)
            have HBLs := Lib.hid (below_toB HBLs.out hb)
            have HGs := Lib.hid (HGs.out.later hb)
            have HRF := Lib.hid hrf
            have b1 := HGs.out
            clear hb hrf
            go_wp2_with (first | ((with_reducible refine wpList_gate ?_); refine wpList_arith _ _ rfl rfl rfl ?_; intro r n hrr) | ((with_reducible refine wpList_getG (b1.drewN _) ?_ ?_); rfl) | ((with_reducible refine wpList_getG b1 ?_ ?_); rfl))
            refine (specBesideCell_any i s g _ HD.out.sane HO.out hc hs4).mono ?_
            by_cases hn : beside g.wide g.high i s < 0
            · rw [show besZ g.m i s = 0 from if_pos hn, show besC g.m i s = 6 from if_pos hn]
              rintro e wd1 ⟨rfl, hb⟩
              have hb := below_toB (below_drawn (Below.refl _ _) _) hb
              have HBs := Lib.hid (below_toB HBs.out hb)
              have HBLs := Lib.hid (below_toB HBLs.out hb)
              have HGs := Lib.hid (HGs.out.later hb)
              have HRN : Hid (Is r (rest g.m i (s + 1))) := hrr.op HRS.out HRF.out
              have HTN : Hid (touB g.m X i (s + 1) = t) := by show (touB g.m X i s || (edge g.m i s && _)) = t; rw [edge_none hn, Bool.false_and, Bool.or_false]; exact HTT.out.symm
              clear hb hn hrr
              cases t
              all_goals
                go_wp2_with fail
                refine wp_soft (SV (.bool true)) (by kernel_rfl) (by kernel_rfl) ?_
                repeat (first | (refine soft_step (fun K hK => ?_); go_simp; (try go_bits); refine hK _ ?_; clear hK K))
                refine soft_nil ?_
                rintro wd hw
                have hb := hw.below
                have HBs := Lib.hid (below_toB HBs.out hb)
                have HBLs := Lib.hid (below_toB HBLs.out hb)
                clear hb hw
                go_wp2_with fail
                go_roundw
                case rel => exact ⟨s + 1, r, _, by omega, by go_num, rfl, HRN.out, rfl, HTN.out.symm, HBs.out, HBLs.out⟩
                case measure => simp [intOf]; omega
            · obtain ⟨n, hn2⟩ : ∃ n : Nat, beside g.wide g.high i s = n := ⟨(beside g.wide g.high i s).toNat, by omega⟩
              rw [show besZ g.m i s = beside g.wide g.high i s from if_neg hn, show besC g.m i s = 0 from if_neg hn, hn2]
              have hcn : IsCell g.m n := beside_cell (sized_of HO.out) hil hn2
              rintro e wd1 ⟨rfl, hb⟩
              have hb := below_toB (below_drawn (Below.refl _ _) _) hb
              have HBs := Lib.hid (below_toB HBs.out hb)
              have HBLs := Lib.hid (below_toB HBLs.out hb)
              have HGs := Lib.hid (HGs.out.later hb)
              have HRN : Hid (Is r (rest g.m i (s + 1))) := hrr.op HRS.out HRF.out
              have hn64 : n < 64 := hcn.1
              have n1 : (n : Int) < 64 := by omega
              have HTN : Hid (touB g.m X i (s + 1) = (t || (edge g.m i s && X.testBit n))) := by
                show (touB g.m X i s || (edge g.m i s && X.testBit (beside g.wide g.high i s).toNat)) = _
                rw [hn2, Int.toNat_natCast, ← HTT.out]
              have HE : Hid (edge g.m i s = fgt (joint (fb (g.c i)) (fb (g.c n))) (some 0)) := by show _ = _; rw [edge_some hn2]; show fgt (joint (fm g.c i) (fm g.c n)) _ = _; rw [fm_of hil, fm_of hn64]
              have l2 := (GAt.of_blk HGs.out).c (k := i) hil
              have l2n := (GAt.of_blk HGs.out).c (k := n) hn64
              simp only [Nat.zero_add] at l2 l2n
              have q2 := fun x => ext_cell wd1 x l2
              have q2n := fun x => ext_cell wd1 x l2n
              clear hb hn hn2 hrr hcn
              cases t
              · cases hed : edge g.m i s
                · have HTN2 : Hid (touB g.m X i (s + 1) = false) := by show _ = _; rw [HTN.out, hed]; rfl
                  have HJF : Hid (∀ r, Is r (joint (fb (g.c i)) (fb (g.c n))) → fgt (fb r) (fb 0) = false) := fun r h => by rw [h.out, fb0, ← HE.out]; exact hed
                  clear hed
                  go_wp2_with fail
                  refine wp_soft (SF (joint (fb (g.c i)) (fb (g.c n)))) (by kernel_rfl) (by kernel_rfl) ?_
                  repeat (first | (refine soft_step (fun K hK => ?_); go_simp; (try go_bits); refine hK _ ?_; clear hK K) | (refine soft_step (fun K hK => ?_); go_simp; refine ⟨_, _, ⟨rfl, rfl⟩, fun x => (JointOf_any _ _ _).mono ?_, ?_⟩; (rintro e w1 ⟨r, he, hr, hb⟩; exact ⟨_, he, ⟨r, rfl, hr⟩, hb⟩); rintro v ⟨rJ, rfl, hJ⟩; have hj1 := HJF.out rJ hJ; have hgt := order_gt; refine hK _ ?_; clear hK K))
                  refine soft_nil ?_
                  rintro wd hw
                  have hb := hw.below
                  have HBs := Lib.hid (below_toB HBs.out hb)
                  have HBLs := Lib.hid (below_toB HBLs.out hb)
                  clear hb hw
                  go_wp2_with fail
                  go_roundw
                  case rel => exact ⟨s + 1, r, _, by omega, by go_num, rfl, HRN.out, rfl, HTN2.out.symm, HBs.out, HBLs.out⟩
                  case measure => simp [intOf]; omega
                · have HTN2 : Hid (touB g.m X i (s + 1) = X.testBit n) := by show _ = _; rw [HTN.out, hed]; rfl
                  have HJF : Hid (∀ r, Is r (joint (fb (g.c i)) (fb (g.c n))) → fgt (fb r) (fb 0) = true) := fun r h => by rw [h.out, fb0, ← HE.out]; exact hed
                  clear hed
                  have hyb := HYB.out n
                  cases hxb : X.testBit n
                  all_goals
                    rw [hxb] at hyb HTN2
                    clear hxb
                    go_wp2_with fail
                    refine wp_soft (SF (joint (fb (g.c i)) (fb (g.c n)))) (by kernel_rfl) (by kernel_rfl) ?_
                    repeat (first | (refine soft_step (fun K hK => ?_); go_simp; (try go_bits); refine hK _ ?_; clear hK K) | (refine soft_step (fun K hK => ?_); go_simp; refine ⟨_, _, ⟨rfl, rfl⟩, fun x => (JointOf_any _ _ _).mono ?_, ?_⟩; (rintro e w1 ⟨r, he, hr, hb⟩; exact ⟨_, he, ⟨r, rfl, hr⟩, hb⟩); rintro v ⟨rJ, rfl, hJ⟩; have hj1 := HJF.out rJ hJ; have hgt := order_gt; refine hK _ ?_; clear hK K))
                    refine soft_nil ?_
                    rintro wd hw
                    have hb := hw.below
                    have HBs := Lib.hid (below_toB HBs.out hb)
                    have HBLs := Lib.hid (below_toB HBLs.out hb)
                    clear hb hw
                    go_wp2_with fail
                    go_roundw
                    case rel => exact ⟨s + 1, r, _, by omega, by go_num, rfl, HRN.out, rfl, HTN2.out.symm, HBs.out, HBLs.out⟩
                    case measure => simp [intOf]; omega
              · have HTN2 : Hid (touB g.m X i (s + 1) = true) := by show _ = _; rw [HTN.out]; rfl
                go_wp2_with fail
                refine wp_soft (SV (.bool true)) (by kernel_rfl) (by kernel_rfl) ?_
                repeat (first | (refine soft_step (fun K hK => ?_); go_simp; (try go_bits); refine hK _ ?_; clear hK K))
                refine soft_nil ?_
                rintro wd hw
                have hb := hw.below
                have HBs := Lib.hid (below_toB HBs.out hb)
                have HBLs := Lib.hid (below_toB HBLs.out hb)
                clear hb hw
                go_wp2_with fail
                go_roundw
                case rel => exact ⟨s + 1, r, _, by omega, by go_num, rfl, HRN.out, rfl, HTN2.out.symm, HBs.out, HBLs.out⟩
                case measure => simp [intOf]; omega
          · have s1 : ¬ (s : Int) < 4 := by omega
            obtain rfl : s = 4 := by omega
            have HTX : Hid (t = X.testBit i) := HTT.out.trans (HFO.out.touch i hc)
            have hyb := HYB.out i
            rw [← HTX.out] at hyb
            have HG2s := Lib.hid (HG2L.out.below hB2 HG2L.out.lt)
            have hgt := order_gt
            clear hB2 HTT
            go_wp2_with fail
            refine (A2Size_any rs _ _ HRS.out).mono ?_
            rintro e wd1 ⟨rz, rfl, hrz, hb⟩
            have HBs := Lib.hid (below_toB HBs.out hb)
            have HBLs := Lib.hid (below_toB HBLs.out hb)
            have HGs := Lib.hid (HGs.out.later hb)
            have HG2s := Lib.hid (HG2s.out.later hb)
            have hz1 : fgt (fb rz) (fb 981668463) = false := by
              rw [hrz.out, show fb 981668463 = some 981668463 by decide +kernel]
              exact rest_ok N (sized_of HO.out) hc
            have l0 := (GAt.of_blk HGs.out).fixed
            have l8 := HG2s.out.at (arrF_get f2 hil)
            simp only [Nat.zero_add] at l0
            obtain ⟨r0, r1'⟩ := shr_range i HD.out.sane.f0 HD.out.sane.f1
            clear hb hrz b1
            by_cases hf : fixB g.fixed i = true
            · have hf2 : (g.fixed / 2 ^ i % 2 == 0) = false := by have := of_decide_eq_true hf; rw [this]; rfl
              clear hf
              cases t
              all_goals
                go_wp2_with fail
                go_roundw
                case rel => exact ⟨i + 1, by omega, by go_num, HBs.out, HBLs.out⟩
                case measure => simp [intOf]; omega
            · have hfx : fixB g.fixed i = false := by cases h : fixB g.fixed i; rfl; exact absurd h hf
              have hf2 : (g.fixed / 2 ^ i % 2 == 0) = true := by have h0 := of_decide_eq_false hfx; have h1 : g.fixed / 2 ^ i % 2 = 0 := by omega
                                                                 rw [h1]; rfl
              obtain ⟨rfl, hw2⟩ := HWO.out i hc hfx
              have HW2 := Lib.hid hw2
              clear hf hfx hw2
              cases t
              all_goals
                go_wp2_with fail
                refine (A2Size_any (f2 i) (balTo g.m i 4) _ HDU.out).mono ?_
                rintro e wd2 ⟨ra, rfl, hra, hb⟩
                have HBs := Lib.hid (below_toB HBs.out hb)
                have HBLs := Lib.hid (below_toB HBLs.out hb)
                have HRA := Lib.hid hra
                clear hb hra
                go_wp2_with fail
                refine (A2Size_any r2 xf _ HR2.out).mono ?_
                rintro e wd3 ⟨rb, rfl, hrb, hb⟩
                have HBs := Lib.hid (below_toB HBs.out hb)
                have HBLs := Lib.hid (below_toB HBLs.out hb)
                have hz2 : fgt (fb ra) (fb rb) = false := by rw [HRA.out.out, hrb.out]; exact HW2.out
                clear hb hrb
                go_wp2_with fail
                go_roundw
                case rel => exact ⟨i + 1, by omega, by go_num, HBs.out, HBLs.out⟩
                case measure => simp [intOf]; omega
    · have i1 : ¬ (i : Int) < 64 := by omega
      obtain rfl : i = 64 := by omega
      have HB := HBr
      clear HBr HBL HG2r b1
      have hBw : B < wr.heap.size := HGr.out.lt
      go_wp2_with ((with_reducible refine wpList_getG HGr.out ?_ ?_); rfl)
      refine (A2Cell_any v' n' g _ hn' (HV'.out.far HB.out) HD.out).mono ?_
      rintro e wx ⟨c, rfl, hcc, hb⟩
      have HB := Lib.hid (below_toB HB.out hb)
      have HGr := Lib.hid (HGr.out.later hb)
      have hc64 : c < 64 := hcc.1
      have HCC := Lib.hid hcc
      clear hb hcc
      obtain ⟨p1, p2, p3, p4, p5⟩ := ok_parts HO.out
      have HO1 : Hid (okI (G.m { g with h := upd g.h c 1089470464 }) = true) := ok_of (m := G.m { g with h := upd g.h c 1089470464 }) p1 p2 p3 (field_upd p4 hc64 HCC.out.2 (by decide +kernel)) p5
      have HO2 : Hid (okI (G.m { g with g := upd g.g c 3221225472 }) = true) := ok_of (m := G.m { g with g := upd g.g c 3221225472 }) p1 p2 (field_upd p3 hc64 HCC.out.2 (by decide +kernel)) p4 p5
      have HO3 : Hid (okI (G.m { g with c := upd g.c c 1077936128 }) = true) := ok_of (m := G.m { g with c := upd g.c c 1077936128 }) p1 (field_upd p2 hc64 HCC.out.2 (by decide +kernel)) p3 p4 p5
      have HO4 : Hid (okI (G.m { g with fixed := orBit g.fixed c }) = true) := ok_of (m := G.m { g with fixed := orBit g.fixed c }) p1 p2 p3 p4 (drawn_fixedOk HD.out HCC.out)
      clear p1 p2 p3 p4 p5
      have ld := HGr.out
      go_wp2_with ((with_reducible refine wpList_getG ld ?_ ?_); rfl)
      refine (WithHead_any c 1089470464 g _ hr HO.out HCC.out HO1.out).mono ?_
      rintro e wa8 ⟨rfl, hb⟩
      have HB := Lib.hid (below_toB HB.out hb)
      have HGr := Lib.hid (HGr.out.later hb)
      clear ld hb
      go_wp2_with (first | (with_reducible refine wpList_new newF ?_) | (with_reducible refine wpList_zero (zeroF _) ?_) | (with_reducible refine wpList_new newG ?_) | (with_reducible refine wpList_zero (zeroG _) ?_))
      intro B33 wb8 q1 q2 q3 q4
      have HBn := Lib.hid (below_toB HB.out q4)
      have hwB33 : w.heap.size ≤ B33 := by have := HB.out.size; omega
      have hneB33B : B < B33 := by have := HGr.out.lt; omega
      have HGr := Lib.hid (HGr.out.later q4)
      clear q4
      go_wp2_with ((with_reducible refine wpList_putG (g := { g with h := upd g.h c 1089470464 }) q3 ?_ ?_ ?_); rfl; rfl)
      intro wc8 sc bc kc
      have HB := Lib.hid (below_grown HBn.out kc HBn.out.size hwB33)
      have HGr := Lib.hid (HGr.out.grown kc (by omega))
      have HGHead := Lib.hid bc
      clear q3 bc kc sc hneB33B
      have ld := HGr.out
      go_wp2_with ((with_reducible refine wpList_getG ld ?_ ?_); rfl)
      refine (WithGain_any c 3221225472 g _ hr HO.out HCC.out HO2.out).mono ?_
      rintro e wa9 ⟨rfl, hb⟩
      have HB := Lib.hid (below_toB HB.out hb)
      have HGr := Lib.hid (HGr.out.later hb)
      have HGHead := Lib.hid (HGHead.out.later hb)
      clear ld hb
      go_wp2_with (first | (with_reducible refine wpList_new newF ?_) | (with_reducible refine wpList_zero (zeroF _) ?_) | (with_reducible refine wpList_new newG ?_) | (with_reducible refine wpList_zero (zeroG _) ?_))
      intro B35 wb9 q1 q2 q3 q4
      have HBn := Lib.hid (below_toB HB.out q4)
      have hwB35 : w.heap.size ≤ B35 := by have := HB.out.size; omega
      have hneB35B : B < B35 := by have := HGr.out.lt; omega
      have hneB35B33 : B33 < B35 := by have := HGHead.out.lt; omega
      have HGr := Lib.hid (HGr.out.later q4)
      have HGHead := Lib.hid (HGHead.out.later q4)
      clear q4
      go_wp2_with ((with_reducible refine wpList_putG (g := { g with g := upd g.g c 3221225472 }) q3 ?_ ?_ ?_); rfl; rfl)
      intro wc9 sc bc kc
      have HB := Lib.hid (below_grown HBn.out kc HBn.out.size hwB35)
      have HGr := Lib.hid (HGr.out.grown kc (by omega))
      have HGHead := Lib.hid (HGHead.out.grown kc (by omega))
      have HGGain := Lib.hid bc
      clear q3 bc kc sc hneB35B hneB35B33
      have ld := HGr.out
      go_wp2_with ((with_reducible refine wpList_getG ld ?_ ?_); rfl)
      refine (WithConduct_any c 1077936128 g _ hr HO.out HCC.out HO3.out).mono ?_
      rintro e wa10 ⟨rfl, hb⟩
      have HB := Lib.hid (below_toB HB.out hb)
      have HGr := Lib.hid (HGr.out.later hb)
      have HGHead := Lib.hid (HGHead.out.later hb)
      have HGGain := Lib.hid (HGGain.out.later hb)
      clear ld hb
      go_wp2_with (first | (with_reducible refine wpList_new newF ?_) | (with_reducible refine wpList_zero (zeroF _) ?_) | (with_reducible refine wpList_new newG ?_) | (with_reducible refine wpList_zero (zeroG _) ?_))
      intro B37 wb10 q1 q2 q3 q4
      have HBn := Lib.hid (below_toB HB.out q4)
      have hwB37 : w.heap.size ≤ B37 := by have := HB.out.size; omega
      have hneB37B : B < B37 := by have := HGr.out.lt; omega
      have hneB37B33 : B33 < B37 := by have := HGHead.out.lt; omega
      have hneB37B35 : B35 < B37 := by have := HGGain.out.lt; omega
      have HGr := Lib.hid (HGr.out.later q4)
      have HGHead := Lib.hid (HGHead.out.later q4)
      have HGGain := Lib.hid (HGGain.out.later q4)
      clear q4
      go_wp2_with ((with_reducible refine wpList_putG (g := { g with c := upd g.c c 1077936128 }) q3 ?_ ?_ ?_); rfl; rfl)
      intro wc10 sc bc kc
      have HB := Lib.hid (below_grown HBn.out kc HBn.out.size hwB37)
      have HGr := Lib.hid (HGr.out.grown kc (by omega))
      have HGHead := Lib.hid (HGHead.out.grown kc (by omega))
      have HGGain := Lib.hid (HGGain.out.grown kc (by omega))
      have HGConduct := Lib.hid bc
      clear q3 bc kc sc hneB37B hneB37B33 hneB37B35
      have ld := HGr.out
      go_wp2_with ((with_reducible refine wpList_getG ld ?_ ?_); rfl)
      refine (WithFixed_any c  g _ hr HO.out HCC.out HD.out.fxr.1 HD.out.fxr.2 HO4.out).mono ?_
      rintro e wa11 ⟨rfl, hb⟩
      have HB := Lib.hid (below_toB HB.out hb)
      have HGr := Lib.hid (HGr.out.later hb)
      have HGHead := Lib.hid (HGHead.out.later hb)
      have HGGain := Lib.hid (HGGain.out.later hb)
      have HGConduct := Lib.hid (HGConduct.out.later hb)
      clear ld hb
      go_wp2_with (first | (with_reducible refine wpList_new newF ?_) | (with_reducible refine wpList_zero (zeroF _) ?_) | (with_reducible refine wpList_new newG ?_) | (with_reducible refine wpList_zero (zeroG _) ?_))
      intro B39 wb11 q1 q2 q3 q4
      have HBn := Lib.hid (below_toB HB.out q4)
      have hwB39 : w.heap.size ≤ B39 := by have := HB.out.size; omega
      have hneB39B : B < B39 := by have := HGr.out.lt; omega
      have hneB39B33 : B33 < B39 := by have := HGHead.out.lt; omega
      have hneB39B35 : B35 < B39 := by have := HGGain.out.lt; omega
      have hneB39B37 : B37 < B39 := by have := HGConduct.out.lt; omega
      have HGr := Lib.hid (HGr.out.later q4)
      have HGHead := Lib.hid (HGHead.out.later q4)
      have HGGain := Lib.hid (HGGain.out.later q4)
      have HGConduct := Lib.hid (HGConduct.out.later q4)
      clear q4
      go_wp2_with ((with_reducible refine wpList_putG (g := { g with fixed := orBit g.fixed c }) q3 ?_ ?_ ?_); rfl; rfl)
      intro wc11 sc bc kc
      have HB := Lib.hid (below_grown HBn.out kc HBn.out.size hwB39)
      have HGr := Lib.hid (HGr.out.grown kc (by omega))
      have HGHead := Lib.hid (HGHead.out.grown kc (by omega))
      have HGGain := Lib.hid (HGGain.out.grown kc (by omega))
      have HGConduct := Lib.hid (HGConduct.out.grown kc (by omega))
      have HGFixed := Lib.hid bc
      clear q3 bc kc sc hneB39B hneB39B33 hneB39B35 hneB39B37
      have u1 : upd g.h c 1089470464 c = 1089470464 := by unfold upd; rw [if_pos rfl]
      have u2 : upd g.g c 3221225472 c = 3221225472 := by unfold upd; rw [if_pos rfl]
      have u3 : upd g.c c 1077936128 c = 1077936128 := by unfold upd; rw [if_pos rfl]
      have l1 := (GAt.of_blk HGHead.out).h (k := c) hc64
      have l2 := (GAt.of_blk HGGain.out).g (k := c) hc64
      have l3 := (GAt.of_blk HGConduct.out).c (k := c) hc64
      have l4 := (GAt.of_blk HGFixed.out).fixed
      have l5 := (GAt.of_blk HGr.out).fixed
      simp only [Nat.zero_add, u1, u2, u3] at l1 l2 l3 l4 l5
      have e1 : feq (fb 1089470464) (fb 1089470464) = true := by decide +kernel
      have e2 : feq (fb 3221225472) (fb 3221225472) = true := by decide +kernel
      have e3 : feq (fb 1077936128) (fb 1077936128) = true := by decide +kernel
      have heq := order_eq
      have c1 : (c : Int) < 64 := by omega
      have hob : bits BinOp.or IntKind.u64 g.fixed (IntKind.u64.wrap (2 ^ c)) = orBit g.fixed c := rfl
      clear u1 u2 u3 HGHead HGGain HGConduct HGFixed HGr
      go_wp2_with fail
      go_ret
      exact ⟨rfl, HB.out⟩
end Go.Proofs.Ytfcphfdfpjmgiaa
