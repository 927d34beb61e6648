/- The well function, of the program and of the reference: the walk. -/
import Derived.Test.YtonmdkhfongmhaaLn
namespace Go.Proofs.Ytonmdkhfongmhaa
open Go.RowKit

/-- The number of steps down from 8 to a float. -/
def step8 (b : Nat) : Nat := (List.range 9).findIdx fun j : Nat => fb b == ofI (8 - (j : Int))
theorem step8_of {b j : Nat} (h : Is b (ofI (8 - (j : Int)))) (hj : j < 9) : step8 b = j := by
  have key : ∀ j : Fin 9, ((List.range 9).findIdx fun i : Nat => ofI (8 - (j.val : Int)) == ofI (8 - (i : Int))) = j.val := by decide +kernel
  unfold step8
  rw [h.out]
  exact key ⟨j, hj⟩
def down8 : Value → Nat
  | .float _ b => step8 b
  | .int _ z => (8 - z).toNat
  | _ => 0
theorem ge8 {j : Nat} (h : j < 9) : (fgt (ofI (8 - (j : Int))) (fb 1065353216) || feq (ofI (8 - (j : Int))) (fb 1065353216)) = decide (j < 8) := by
  have key : ∀ j : Fin 9, (fgt (ofI (8 - (j.val : Int))) (fb 1065353216) || feq (ofI (8 - (j.val : Int))) (fb 1065353216)) = decide (j.val < 8) := by decide +kernel
  exact key ⟨j, h⟩

/-- What is known of an argument. -/
structure Mid (x : F) : Prop where
  num : ∃ v, Val x v ∧ ((2 ^ 89 : Nat) : Int) ≤ v ∧ v ≤ 80 * ((2 ^ 149 : Nat) : Int)
theorem Mid.lo {x : F} (h : Mid x) : (fgt x (fb 562036736) || feq x (fb 562036736)) = true := by
  obtain ⟨v, hv, h1, h2⟩ := h.num
  have := fge_val hv tiny_val
  unfold fge at this
  rw [show fb 562036736 = cTiny from rfl, this]; exact decide_eq_true h1
theorem Mid.hi {x : F} (h : Mid x) : fgt x (fb 1117782016) = false := by
  obtain ⟨v, hv, h1, h2⟩ := h.num
  rw [show fb 1117782016 = c80 from rfl, fgt_val hv c80_val]; exact decide_eq_false (by omega)
theorem Mid.low {x : F} (h : Mid x) (hl : fle x one = true) : Low x := by
  obtain ⟨v, hv, h1, h2⟩ := h.num
  rw [fle_val hv one_val] at hl
  exact Low.of hv h1 (of_decide_eq_true hl)

theorem ngamma : fsub (fb 0) (fb 1058260072) = fb 3205743720 := by decide +kernel
def FRel (x : F) (w : World) (v7 v8 : Value) (wr : World) : Prop := ∃ j r e : Nat, j ≤ 8 ∧ v8 = .float .f32 e ∧ Is e (ofI (8 - (j : Int))) ∧ v7 = .float .f32 r ∧ Is r (fK x j) ∧ Below w.heap.size w wr
def FRelI (x : F) (w : World) (v7 v8 : Value) (wr : World) : Prop := ∃ j r : Nat, j ≤ 8 ∧ v8 = .int .i64 (8 - (j : Int)) ∧ v7 = .float .f32 r ∧ Is r (fK x j) ∧ Below w.heap.size w wr

set_option maxRecDepth 100000 in
set_option maxHeartbeats 1600000 in
theorem WellFunction_any (a : Nat) (x : F) (w : World) (ha : Is a x) (hx : Mid x) :
    Calls Try.prog 126 #[.float .f32 a] w (RetFZ (wellF x) 0 w) := by
  have g0 := hx.lo
  have g1 := hx.hi
  rw [← ha.out] at g0 g1
  have hgt := order_gt
  have heq := order_eq
  have hlt := order_lt
  obtain ⟨v, hv, hv1, hv2⟩ := hx.num
  have HV := Lib.hid hv
  have HV1 : Hid (0 < v) := by show 0 < v; have p : (0 : Int) < ((2 ^ 89 : Nat) : Int) := by decide +kernel
                               omega
  have HV2 := Lib.hid hv2
  clear hv hv1 hv2
  cases hone : fle x one
  · have HF : Hid (wellF x = fdiv (expF x) (fK x 8)) := by show (if _ then _ else _) = _; rw [hone]; rfl
    have g2 : (flt (fb a) (fb 1065353216) || feq (fb a) (fb 1065353216)) = false := by rw [ha.out]; exact hone
    clear hone
    go_enter Try.func126, Try.ntmps126
    go_wp2_with fail
    go_loopw [7, 8] (fun v7 v8 wr => FRel x w v7 v8 wr) (fun _ v8 _ => 8 - down8 v8)
    case atStart => exact ⟨0, a, 1090519040, by omega, rfl, (show fb 1090519040 = ofI (8 - ((0 : Nat) : Int)) by decide +kernel), rfl, ha, Below.refl _ _⟩
    case round =>
      obtain ⟨j, r0, e, hj, rfl, he, rfl, hr0, hB⟩ := hrel
      have HE := Lib.hid he
      have HR := Lib.hid hr0
      have HB := Lib.hid hB
      have g3 := ge8 (j := j) (by omega)
      rw [← he.out] at g3
      clear he hr0 hB
      by_cases hlt8 : j < 8
      · rw [decide_eq_true hlt8] at g3
        go_wp2_with (first | ((with_reducible refine wpList_gate ?_); refine wpList_arith _ _ rfl rfl rfl ?_; intro r n hr))
        rename_i r4 n4 h4 r3 n3 h3 r2 n2 h2 r1 n1 h1
        go_roundw
        case rel =>
          refine ⟨j + 1, _, _, by omega, rfl, (hr.op HE.out rfl).trans (ofI_less j (by omega)), rfl, ?_, below_drawn HB.out _⟩
          show fb r1 = _
          simp only [h1.out, h2.out, h3.out, h4.out, HE.out.out, HR.out.out, ha.out, fop, fK, one]
        case measure =>
          have e1 := step8_of HE.out (by omega)
          have e2 := step8_of ((hr.op HE.out rfl).trans (ofI_less j (by omega))) (by omega)
          simp only [down8, e1, e2]
          omega
      · obtain rfl : j = 8 := by omega
        rw [decide_eq_false hlt8] at g3
        go_wp2_with fail
        refine (ExpDown_any a x v wr ha HV.out HV1.out HV2.out).mono ?_
        rintro e w1 ⟨q, rfl, hq, hb⟩
        go_wp2_with (first | ((with_reducible refine wpList_gate ?_); refine wpList_arith _ _ rfl rfl rfl ?_; intro r n hr))
        go_ret2
        exact ⟨_, rfl, by rw [HF.out]; exact hr.op hq HR.out, below_drawn (below_next HB.out hb) _⟩
  · have HF : Hid (wellF x = fadd (fsub (fb 3205743720) (lnF x)) (fmul (wellH x) x)) := by show (if _ then _ else _) = _; rw [hone]; rfl
    have g2 : (flt (fb a) (fb 1065353216) || feq (fb a) (fb 1065353216)) = true := by rw [ha.out]; exact hone
    have HL := Lib.hid (hx.low hone)
    clear hone
    go_enter Try.func126, Try.ntmps126
    go_wp2_with (first | ((with_reducible refine wpList_gate ?_); refine wpList_arith _ _ rfl rfl rfl ?_; intro r n hr) | (go_at_call 91; refine (LnOf_any a x _ ha HL.out).mono ?_; rintro e w1 ⟨q, rfl, hq, hb⟩))
    rename_i r9 n9 h9 r8 n8 h8 r7 n7 h7 r6 n6 h6 r5 n5 h5 r4 n4 h4 r3 n3 h3 r2 n2 h2 r1 n1 h1 r0 n0 h0
    go_ret2
    refine ⟨_, rfl, ?_, below_drawn (below_next (below_drawn (Below.refl _ _) _) hb) _⟩
    show fb r = _
    rw [HF.out]
    simp only [hr.out, h0.out, h1.out, h2.out, h3.out, h4.out, h5.out, h6.out, h7.out, h8.out, h9.out, hq.out, ha.out, fop, wellH, one]

set_option maxRecDepth 100000 in
set_option maxHeartbeats 1600000 in
theorem l03Well_any (a : Nat) (x : F) (w : World) (ha : Is a x) (hx : Mid x) :
    Calls Try.prog 119 #[.float .f32 a] w (RetF (wellF x) w) := by
  have hgt := order_gt
  have heq := order_eq
  have hlt := order_lt
  cases hone : fle x one
  · have HF : Hid (wellF x = fdiv (expF x) (fK x 8)) := by show (if _ then _ else _) = _; rw [hone]; rfl
    have g2 : (flt (fb a) (fb 1065353216) || feq (fb a) (fb 1065353216)) = false := by rw [ha.out]; exact hone
    clear hone hx
    go_enter Try.func119, Try.ntmps119
    go_wp2_with fail
    go_loopw [6, 7] (fun v7 v8 wr => FRelI x w v7 v8 wr) (fun _ v8 _ => 8 - down8 v8)
    case atStart => exact ⟨0, a, by omega, rfl, rfl, ha, Below.refl _ _⟩
    case round =>
      obtain ⟨j, r0, hj, rfl, rfl, hr0, hB⟩ := hrel
      have HR := Lib.hid hr0
      have HB := Lib.hid hB
      clear hr0 hB
      by_cases hlt8 : j < 8
      · have k1 : (1 : Int) ≤ 8 - (j : Int) := by omega
        go_wp2_with (first | ((with_reducible refine wpList_gate ?_); refine wpList_arith _ _ rfl rfl rfl ?_; intro r n hr))
        rename_i r3 n3 h3 r2 n2 h2 r1 n1 h1
        go_roundw
        case rel =>
          refine ⟨j + 1, _, by omega, by go_num, rfl, ?_, below_drawn HB.out _⟩
          show fb r = _
          simp only [hr.out, h1.out, h2.out, h3.out, fb_ofI, HR.out.out, ha.out, fop, fK, one]
        case measure => simp [down8]; omega
      · obtain rfl : j = 8 := by omega
        go_wp2_with fail
        refine (l03Exp_any a x wr ha).mono ?_
        rintro e w1 ⟨q, rfl, hq, hb⟩
        go_wp2_with (first | ((with_reducible refine wpList_gate ?_); refine wpList_arith _ _ rfl rfl rfl ?_; intro r n hr))
        go_ret
        exact ⟨_, rfl, by rw [HF.out]; exact hr.op hq HR.out, below_drawn (below_next HB.out hb) _⟩
  · have HF : Hid (wellF x = fadd (fsub (fb 3205743720) (lnF x)) (fmul (wellH x) x)) := by show (if _ then _ else _) = _; rw [hone]; rfl
    have g2 : (flt (fb a) (fb 1065353216) || feq (fb a) (fb 1065353216)) = true := by rw [ha.out]; exact hone
    have HL := Lib.hid (hx.low hone)
    clear hone hx
    go_enter Try.func119, Try.ntmps119
    go_wp2_with (first | ((with_reducible refine wpList_gate ?_); refine wpList_arith _ _ rfl rfl rfl ?_; intro r n hr) | (go_at_call 90; refine (Ratio_any _ _ _).mono ?_; rintro e w1 ⟨q, rfl, hq, hb⟩) | (go_at_call 48; refine (l03Ln_any a x _ ha HL.out).mono ?_; rintro e w2 ⟨q2, rfl, hq2, hb2⟩))
    rename_i K HK w6 q6 k6 b6 r10 n10 h10 w5 q5 k5 b5 r9 n9 h9 r8 n8 h8 w4 q4 k4 b4 r7 n7 h7 r6 n6 h6 r5 n5 h5 r4 n4 h4 r3 n3 h3 r2 n2 h2 r1 n1 h1 r0 n0 h0
    go_ret
    refine ⟨_, rfl, ?_, below_drawn (below_next (below_drawn (below_next (below_drawn (below_next (below_drawn (below_next (below_drawn b6 _) b5) _) b4) _) hb) _) hb2) _⟩
    show fb r = _
    rw [HF.out]
    simp only [hr.out, h0.out, h1.out, h2.out, h3.out, h4.out, h5.out, h6.out, h7.out, h8.out, h9.out, h10.out, hq.out, hq2.out, k4.out, k5.out, k6.out, ratio600, ratio96, ratio18, ratio4, ngamma, ha.out, fop, wellH, one]
end Go.Proofs.Ytonmdkhfongmhaa
