/- The exponential function and the logarithm, of the program and of the reference: the walk. -/
import Derived.Test.YtonmdkhfongmhaaWf
namespace Go.Proofs.Ytonmdkhfongmhaa
open Go.RowKit

/-- A float and a whole number are handed back. -/
def RetFZ (x : F) (z : Int) (w : World) (e : Ending) (w' : World) : Prop := ∃ r, e = .returned (.tuple #[.float .f32 r, .int .i64 z]) ∧ Is r x ∧ Below w.heap.size w w'


set_option maxHeartbeats 400000 in
theorem Ratio_any (a b : Int) (w : World) : Calls Try.prog 90 #[.int .i64 a, .int .i64 b] w (RetF (fdiv (ofI a) (ofI b)) w) := by
  go_enter Try.func90, Try.ntmps90
  go_wp2_with (first | ((with_reducible refine wpList_gate ?_); refine wpList_arith _ _ rfl rfl rfl ?_; intro r n hr))
  go_ret
  exact ⟨r, rfl, hr.op (fb_ofI _) (fb_ofI _), below_drawn (Below.refl _ _) _⟩

def SqRel (p : F) (w : World) (v5 v26 : Value) (wr : World) : Prop := ∃ j r : Nat, j ≤ 8 ∧ v26 = .int .i64 j ∧ v5 = .float .f32 r ∧ Is r (sqK p j) ∧ Below w.heap.size w wr

set_option maxRecDepth 100000 in
set_option maxHeartbeats 800000 in
theorem ExpDown_any (a : Nat) (x : F) (v : Int) (w : World) (ha : Is a x) (hv : Val x v) (h0 : 0 < v) (h1 : v ≤ 80 * ((2 ^ 149 : Nat) : Int)) :
    Calls Try.prog 146 #[.float .f32 a] w (RetFZ (expF x) 0 w) := by
  have g0 : fgt (fb a) (fb 0) = true := by rw [ha.out, fb0, fgt_val hv val_zero]; exact decide_eq_true h0
  have g1 : fgt (fb a) (fb 1117782016) = false := by
    rw [ha.out, show fb 1117782016 = c80 by decide, fgt_val hv c80_val]; exact decide_eq_false (by omega)
  have hgt := order_gt
  clear hv h0 h1
  go_enter Try.func146, Try.ntmps146
  go_wp2_with (first | ((with_reducible refine wpList_gate ?_); refine wpList_arith _ _ rfl rfl rfl ?_; intro r n hr))
  rename_i r5 n5 h5 r4 n4 h4 r3 n3 h3 r2 n2 h2 r1 n1 h1 r0 n0 h0 K HK
  have HP : Hid (Is r (sqK (expP x) 0)) := by
    show fb r = expP x
    simp only [hr.out, h0.out, h1.out, h2.out, h3.out, h4.out, h5.out, ha.out, fop, expP, one]
  have HB : Hid (Below w.heap.size w (w.drewN (n5 + n4 + n3 + n2 + n1 + n0 + n))) := below_drawn (Below.refl _ _) _
  clear hr h0 h1 h2 h3 h4 h5
  go_loopw [5, 26] (fun v5 v26 wr => SqRel (expP x) w v5 v26 wr) (fun _ v26 _ => 8 - (intOf v26).toNat)
  case atStart => exact ⟨0, r, by omega, rfl, rfl, HP.out, HB.out⟩
  case round =>
    obtain ⟨j, q, hj, rfl, rfl, hq, hB⟩ := hrel
    have HQ := Lib.hid hq
    have HBr := Lib.hid hB
    clear hq hB
    by_cases hlt : j < 8
    · have k1 : (j : Int) < 8 := by omega
      go_wp2_with (first | ((with_reducible refine wpList_gate ?_); refine wpList_arith _ _ rfl rfl rfl ?_; intro r n hr))
      go_roundw
      case rel => exact ⟨j + 1, _, by omega, by go_num, rfl, hr.op HQ.out HQ.out, below_drawn HBr.out _⟩
      case measure => simp [intOf]; omega
    · obtain rfl : j = 8 := by omega
      go_wp2_with (first | ((with_reducible refine wpList_gate ?_); refine wpList_arith _ _ rfl rfl rfl ?_; intro r n hr))
      go_ret2
      exact ⟨_, rfl, hr.op rfl HQ.out, below_drawn HBr.out _⟩

theorem ratio6 : fdiv (ofI 1) (ofI 6) = fb 1042983595 := by decide +kernel
theorem ratio7 : fdiv (ofI 1) (ofI 7) = fb 1041385765 := by decide +kernel
theorem ratio5 : fdiv (ofI 1) (ofI 5) = fb 1045220557 := by decide +kernel
theorem ratio3 : fdiv (ofI 1) (ofI 3) = fb 1051372203 := by decide +kernel
theorem ratio600 : fdiv (ofI 1) (ofI 600) = fb 987395086 := by decide +kernel
theorem ratio96 : fdiv (ofI 1) (ofI 96) = fb 1009429163 := by decide +kernel
theorem ratio18 : fdiv (ofI 1) (ofI 18) = fb 1029934649 := by decide +kernel
theorem ratio4 : fdiv (ofI 1) (ofI 4) = fb 1048576000 := by decide +kernel

set_option maxRecDepth 100000 in
set_option maxHeartbeats 800000 in
theorem l03Exp_any (a : Nat) (x : F) (w : World) (ha : Is a x) :
    Calls Try.prog 142 #[.float .f32 a] w (RetF (expF x) w) := by
  go_enter Try.func142, Try.ntmps142
  go_wp2_with (first | ((with_reducible refine wpList_gate ?_); refine wpList_arith _ _ rfl rfl rfl ?_; intro r n hr) | (go_at_call 90; refine (Ratio_any _ _ _).mono ?_; rintro e w1 ⟨q, rfl, hq, hb⟩))
  rename_i r5 n5 h5 r4 n4 h4 r3 n3 h3 r2 n2 h2 r1 n1 h1 r0 n0 h0 K HK
  have HP : Hid (Is r (sqK (expP x) 0)) := by
    show fb r = expP x
    simp only [hr.out, h0.out, h1.out, h2.out, h3.out, h4.out, h5.out, hq.out, ratio6, ha.out, fop, expP, one]
  have HB : Hid (Below w.heap.size w (w1.drewN (n4 + n3 + n2 + n1 + n0 + n))) := below_drawn (below_next (below_drawn (Below.refl _ _) _) hb) _
  clear hr h0 h1 h2 h3 h4 h5 hb hq
  go_loopw [4, 5] (fun v4 v5 wr => SqRel (expP x) w v4 v5 wr) (fun _ v5 _ => 8 - (intOf v5).toNat)
  case atStart => exact ⟨0, r, by omega, rfl, rfl, HP.out, HB.out⟩
  case round =>
    obtain ⟨j, q, hj, rfl, rfl, hq, hB⟩ := hrel
    have HQ := Lib.hid hq
    have HBr := Lib.hid hB
    clear hq hB
    by_cases hlt : j < 8
    · have k1 : (j : Int) < 8 := by omega
      go_wp2_with (first | ((with_reducible refine wpList_gate ?_); refine wpList_arith _ _ rfl rfl rfl ?_; intro r n hr))
      go_roundw
      case rel => exact ⟨j + 1, _, by omega, by go_num, rfl, hr.op HQ.out HQ.out, below_drawn HBr.out _⟩
      case measure => simp [intOf]; omega
    · obtain rfl : j = 8 := by omega
      go_wp2_with (first | ((with_reducible refine wpList_gate ?_); refine wpList_arith _ _ rfl rfl rfl ?_; intro r n hr))
      go_ret
      exact ⟨_, rfl, hr.op rfl HQ.out, below_drawn HBr.out _⟩

/-- The logarithm's doublings: by floats. -/
def LnRel (x : F) (w : World) (v4 v5 : Value) (wr : World) : Prop := ∃ k m e : Nat, k ≤ 60 ∧ lnK x (60 - k) k = lnN x ∧ v4 = .float .f32 m ∧ v5 = .float .f32 e ∧ Is m (mK x k) ∧ Is e (ofI (-(k : Int))) ∧ Below w.heap.size w wr
/-- The same with a whole number. -/
def LnRelI (x : F) (w : World) (v4 v5 : Value) (wr : World) : Prop := ∃ k m : Nat, k ≤ 60 ∧ lnK x (60 - k) k = lnN x ∧ v4 = .float .f32 m ∧ v5 = .int .i64 (-(k : Int)) ∧ Is m (mK x k) ∧ Below w.heap.size w wr
def NoRel (a b : Value) (w : World) (v4 v5 : Value) (wr : World) : Prop := v4 = a ∧ v5 = b ∧ w = wr
theorem ofI_0 : ofI (-((0 : Nat) : Int)) = fb 0 := by decide +kernel

/-- What is known of an argument up to 1. -/
structure Low (x : F) : Prop where
  lo : (fgt x (fb 562036736) || feq x (fb 562036736)) = true
  hi : fgt x (fb 1568669696) = false
  n1 : (fgt x (fb 1069547520) || feq x (fb 1069547520)) = false
  last : flt (mK x 60) (fb 1061158912) = false
theorem Low.of {x : F} {v : Int} (hv : Val x v) (h1 : ((2 ^ 89 : Nat) : Int) ≤ v) (h2 : v ≤ ((2 ^ 149 : Nat) : Int)) : Low x := by
  have p1 : (0 : Int) < ((2 ^ 149 : Nat) : Int) := by decide +kernel
  have e1 : fb 562036736 = cTiny := rfl
  have v2 : Val (fb 1568669696) ((2 ^ 209 : Nat) : Int) := ⟨1568669696, false, 8388608, 37, by decide +kernel, by decide +kernel, by omega, by decide +kernel⟩
  have v3 : Val (fb 1069547520) (3 * ((2 ^ 148 : Nat) : Int)) := ⟨1069547520, false, 12582912, -23, by decide +kernel, by decide +kernel, by omega, by decide +kernel⟩
  have p2 : ((2 ^ 149 : Nat) : Int) ≤ ((2 ^ 209 : Nat) : Int) := by decide +kernel
  have p3 : ((2 ^ 149 : Nat) : Int) < 3 * ((2 ^ 148 : Nat) : Int) := by decide +kernel
  refine ⟨?_, ?_, ?_, mK_end hv h1 h2⟩
  · have := fge_val hv tiny_val
    unfold fge at this
    rw [e1, this]; exact decide_eq_true h1
  · rw [fgt_val hv v2]; exact decide_eq_false (by omega)
  · have := fge_val hv v3
    unfold fge at this
    rw [this]; exact decide_eq_false (by omega)

/-- The number of steps down to a float. -/
def stepF (b : Nat) : Nat := (List.range 61).findIdx fun k : Nat => fb b == ofI (-(k : Int))
theorem stepF_of {b k : Nat} (h : Is b (ofI (-(k : Int)))) (hk : k < 61) : stepF b = k := by
  have key : ∀ k : Fin 61, ((List.range 61).findIdx fun j : Nat => ofI (-(k.val : Int)) == ofI (-(j : Int))) = k.val := by decide +kernel
  unfold stepF
  rw [h.out]
  exact key ⟨k, hk⟩

/-- How far a counter of doublings has gone. -/
def downOf : Value → Nat
  | .float _ b => stepF b
  | .int _ z => (-z).toNat
  | _ => 0

set_option maxRecDepth 100000 in
set_option maxHeartbeats 1600000 in
theorem LnOf_any (a : Nat) (x : F) (w : World) (ha : Is a x) (hx : Low x) :
    Calls Try.prog 91 #[.float .f32 a] w (RetFZ (lnF x) 0 w) := by
  have g0 := hx.lo
  have g1 := hx.hi
  have g2 := hx.n1
  have LAST := Lib.hid hx.last
  rw [← ha.out] at g0 g1 g2
  have hgt := order_gt
  have heq := order_eq
  have hlt' := order_lt
  clear hx
  go_enter Try.func91, Try.ntmps91
  go_wp2_with fail
  go_loopw [4, 5] (fun v4 v5 wr => NoRel (.float .f32 a) (.float .f32 0) w v4 v5 wr) (fun _ _ _ => 0)
  case atStart => exact ⟨rfl, rfl, rfl⟩
  case round =>
    obtain ⟨rfl, rfl, rfl⟩ := hrel
    go_wp2_with fail
    go_loopw [4, 5] (fun v4 v5 wr => LnRel x w v4 v5 wr) (fun _ v5 _ => 60 - downOf v5)
    case atStart => exact ⟨0, a, 0, by omega, rfl, rfl, rfl, ha, ofI_0.symm, Below.refl _ _⟩
    case round =>
      obtain ⟨k, m, e, hk, hln, rfl, rfl, hm, he, hB⟩ := hrel
      have HM := Lib.hid hm
      have HE := Lib.hid he
      have HBr := Lib.hid hB
      have HLN := Lib.hid hln
      have hcm : flt (fb m) (fb 1061158912) = flt (mK x k) (fb 1061158912) := by rw [hm.out]
      clear hm he hB hln
      cases hlt : flt (mK x k) (fb 1061158912)
      · rw [hlt] at hcm
        have HK : Hid (lnN x = k) := by show _ = _; rw [← HLN.out]; exact lnK_stop hlt
        have HF : Hid (lnF x = lnOf (mK x k) k) := by show lnOf _ _ = _; rw [HK.out]
        clear hlt
        go_wp2_with (first | ((with_reducible refine wpList_gate ?_); refine wpList_arith _ _ rfl rfl rfl ?_; intro r n hr))
        rename_i r12 n12 h12 r11 n11 h11 r10 n10 h10 r9 n9 h9 r8 n8 h8 r7 n7 h7 r6 n6 h6 r5 n5 h5 r4 n4 h4 r3 n3 h3 r2 n2 h2 r1 n1 h1 r0 n0 h0
        go_ret2
        refine ⟨r, rfl, ?_, below_drawn HBr.out _⟩
        show fb r = _
        rw [HF.out]
        simp only [hr.out, h0.out, h1.out, h2.out, h3.out, h4.out, h5.out, h6.out, h7.out, h8.out, h9.out, h10.out, h11.out, h12.out, HM.out.out, HE.out.out, fop, lnOf, one, two]
      · rw [hlt] at hcm
        have hk60 : k < 60 := by
          rcases Nat.lt_or_ge k 60 with h | h
          · exact h
          · exfalso
            obtain rfl : k = 60 := by omega
            rw [LAST.out] at hlt; cases hlt
        have HK : Hid (lnK x (60 - (k + 1)) (k + 1) = lnN x) := by
          show _ = _
          rw [← HLN.out, show 60 - k = (60 - (k + 1)) + 1 by omega]
          exact (lnK_step hlt).symm
        clear hlt
        go_wp2_with (first | ((with_reducible refine wpList_gate ?_); refine wpList_arith _ _ rfl rfl rfl ?_; intro r n hr))
        rename_i r1 n1 h1
        go_roundw
        case rel => exact ⟨k + 1, _, _, by omega, HK.out, rfl, rfl, h1.op HM.out rfl, (hr.op HE.out rfl).trans (ofI_down k (by omega)), below_drawn HBr.out _⟩
        case measure =>
          have e1 := stepF_of HE.out (by omega)
          have e2 := stepF_of ((hr.op HE.out rfl).trans (ofI_down k (by omega))) (by omega)
          simp only [downOf, e1, e2]
          omega

set_option maxRecDepth 100000 in
set_option maxHeartbeats 1600000 in
theorem l03Ln_any (a : Nat) (x : F) (w : World) (ha : Is a x) (hx : Low x) :
    Calls Try.prog 48 #[.float .f32 a] w (RetF (lnF x) w) := by
  have g2 := hx.n1
  have LAST := Lib.hid hx.last
  rw [← ha.out] at g2
  have hgt := order_gt
  have heq := order_eq
  have hlt' := order_lt
  clear hx
  go_enter Try.func48, Try.ntmps48
  go_wp2_with fail
  go_loopw [3, 4] (fun v4 v5 wr => NoRel (.float .f32 a) (.int .i64 0) w v4 v5 wr) (fun _ _ _ => 0)
  case atStart => exact ⟨rfl, rfl, rfl⟩
  case round =>
    obtain ⟨rfl, rfl, rfl⟩ := hrel
    go_wp2_with fail
    go_loopw [3, 4] (fun v4 v5 wr => LnRelI x w v4 v5 wr) (fun _ v5 _ => 60 - downOf v5)
    case atStart => exact ⟨0, a, by omega, rfl, rfl, rfl, ha, Below.refl _ _⟩
    case round =>
      obtain ⟨k, m, hk, hln, rfl, rfl, hm, hB⟩ := hrel
      have HM := Lib.hid hm
      have HBr := Lib.hid hB
      have HLN := Lib.hid hln
      have hcm : flt (fb m) (fb 1061158912) = flt (mK x k) (fb 1061158912) := by rw [hm.out]
      clear hm hB hln
      cases hlt : flt (mK x k) (fb 1061158912)
      · rw [hlt] at hcm
        have HK : Hid (lnN x = k) := by show _ = _; rw [← HLN.out]; exact lnK_stop hlt
        have HF : Hid (lnF x = lnOf (mK x k) k) := by show lnOf _ _ = _; rw [HK.out]
        clear hlt
        go_wp2_with (first | ((with_reducible refine wpList_gate ?_); refine wpList_arith _ _ rfl rfl rfl ?_; intro r n hr) | (go_at_call 90; refine (Ratio_any _ _ _).mono ?_; rintro e w1 ⟨q, rfl, hq, hb⟩))
        rename_i r12 n12 h12 r11 n11 h11 r10 n10 h10 r9 n9 h9 w7 q7 k7 b7 r8 n8 h8 w6 q6 k6 b6 r7 n7 h7 r6 n6 h6 r5 n5 h5 r4 n4 h4 r3 n3 h3 r2 n2 h2 r1 n1 h1 r0 n0 h0
        go_ret
        refine ⟨r, rfl, ?_, below_drawn (below_next (below_drawn (below_next (below_drawn (below_next (below_drawn HBr.out _) b7) _) b6) _) hb) _⟩
        show fb r = _
        rw [HF.out]
        simp only [hr.out, h0.out, h1.out, h2.out, h3.out, h4.out, h5.out, h6.out, h7.out, h8.out, h9.out, h10.out, h11.out, h12.out, hq.out, k6.out, k7.out, ratio7, ratio5, ratio3, fb_ofI, HM.out.out, fop, lnOf, one, two]
      · rw [hlt] at hcm
        have hk60 : k < 60 := by
          rcases Nat.lt_or_ge k 60 with h | h
          · exact h
          · exfalso
            obtain rfl : k = 60 := by omega
            rw [LAST.out] at hlt; cases hlt
        have HK : Hid (lnK x (60 - (k + 1)) (k + 1) = lnN x) := by
          show _ = _
          rw [← HLN.out, show 60 - k = (60 - (k + 1)) + 1 by omega]
          exact (lnK_step hlt).symm
        clear hlt
        go_wp2_with (first | ((with_reducible refine wpList_gate ?_); refine wpList_arith _ _ rfl rfl rfl ?_; intro r n hr))
        go_roundw
        case rel => exact ⟨k + 1, _, by omega, HK.out, rfl, by go_num, hr.op HM.out rfl, below_drawn HBr.out _⟩
        case measure => simp [downOf]; omega
end Go.Proofs.Ytonmdkhfongmhaa
