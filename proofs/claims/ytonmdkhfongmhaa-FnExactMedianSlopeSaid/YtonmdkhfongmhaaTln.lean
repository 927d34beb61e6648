/- The logarithm of a number from 1 on, by the program and by the reference: halvings. -/
import Derived.Test.YtonmdkhfongmhaaLn
import Derived.Test.YtonmdkhfongmhaaWfin
namespace Go.Proofs.Ytonmdkhfongmhaa
open Go.RowKit

/-- Halved so often. -/
def hK (u : F) : Nat → F
  | 0 => u
  | k + 1 => fdiv (hK u k) two
def isHi (u : F) : Bool := fgt u (fb 1069547520) || feq u (fb 1069547520)
def hnK (u : F) : Nat → Nat → Nat
  | 0, k => k
  | n + 1, k => if isHi (hK u k) then hnK u n (k + 1) else k
def hN (u : F) : Nat := hnK u 20 0
/-- From the number that was halved so often. -/
def hOf (m : F) (k : Nat) : F :=
  let t := fdiv (fsub m one) (fadd m one)
  let q := fmul t t
  let p := fadd (fmul q (fb 1041385765)) (fb 1045220557)
  let p := fadd (fmul p q) (fb 1051372203)
  let p := fadd (fmul p q) one
  fadd (fmul (ofI (k : Int)) (fb 1060205080)) (fmul two (fmul t p))
def lnH (u : F) : F := hOf (hK u (hN u)) (hN u)
theorem hnK_step {u : F} {n k : Nat} (h : isHi (hK u k) = true) : hnK u (n + 1) k = hnK u n (k + 1) := by
  show (if _ then _ else _) = _; rw [h]; rfl
theorem hnK_stop {u : F} {n k : Nat} (h : isHi (hK u k) = false) : hnK u n k = k := by
  cases n with
  | zero => rfl
  | succ n => show (if _ then _ else _) = _; rw [h]; rfl

set_option maxHeartbeats 400000 in
theorem nm_halve {x : F} {m : Nat} {e : Int} (h : Nm x m e) (he : -148 ≤ e) (he2 : e ≤ 104) : Nm (fdiv x two) m (e - 1) := by
  obtain ⟨b, rfl, hr, h1, h2, h3⟩ := h
  have hlog : m.log2 = 23 := by
    have a := (Nat.le_log2 (k := 23) (by omega : m ≠ 0)).2 h1
    have b := (Nat.log2_lt (k := 24) (by omega : m ≠ 0)).2 h2
    omega
  refine ⟨Ieee.single.nearest false m (e - 1), ?_, read_nearest _ (by omega) (by omega) (.inr ⟨h1, h2⟩), h1, h2, by omega⟩
  have hf : Ieee.single.fractionBits = 23 := rfl
  have h2' : two = some 1073741824 := by decide +kernel
  rw [h2']
  show ((Ieee.single.read b).quotient (Ieee.single.fractionBits + 2) (Ieee.single.read 1073741824)).map Ieee.single.write = _
  rw [hr, read_two, hf]
  simp only [Ieee.Datum.quotient]
  rw [if_neg (by decide)]
  have hl2 : (8388608 : Nat).log2 = 23 := by decide +kernel
  rw [hl2, hlog]
  simp only [Option.map_some, Ieee.Format.write, Option.some.injEq, Bool.xor_false]
  have e1 : (m <<< (23 + 2 + 23 - 23)) / 8388608 = m * 4 := by
    rw [Nat.shiftLeft_eq]; omega
  have e2 : (m <<< (23 + 2 + 23 - 23)) % 8388608 = 0 := by
    rw [Nat.shiftLeft_eq]; omega
  have e3 : 2 * (m * 4) + ((0 : Nat) != 0).toNat = m <<< 3 := by rw [Nat.shiftLeft_eq, show ((0 : Nat) != 0).toNat = 0 from rfl]; omega
  have e4 : e - -22 - ((23 + 2 + 23 - 23 : Nat) : Int) - 1 = e - 1 - ((3 : Nat) : Int) := by omega
  rw [e1, e2, e3, e4, nearest_shl false m 3 (e - 1)]
theorem nm_hK {x : F} {m : Nat} {e : Int} (h : Nm x m e) (he : -23 ≤ e) (he2 : e ≤ 104) : ∀ k : Nat, k ≤ 60 → Nm (hK x k) m (e - k)
  | 0, _ => by simpa [hK] using h
  | k + 1, hk => by
    have := nm_halve (nm_hK h he he2 k (by omega)) (by omega) (by omega)
    rw [show e - ((k + 1 : Nat) : Int) = e - k - 1 by omega]
    exact this
theorem nm_val {x : F} {m : Nat} {e : Int} (h : Nm x m e) : Val x ((m * 2 ^ (e + 149).toNat : Nat) : Int) := by
  obtain ⟨b, rfl, hr, h1, h2, h3⟩ := h
  rw [← Nat.shiftLeft_eq]
  exact val_of hr h3
theorem nm_ofI {t : Int} (h1 : 1 ≤ t) (h2 : t ≤ 100000) : ∃ m e, Nm (ofI t) m e ∧ -23 ≤ e ∧ e ≤ -7 := by
  obtain ⟨b, j, hb, hr, hj⟩ := ofI_read t (by omega)
  rw [decide_eq_false (by omega)] at hr
  obtain ⟨n, rfl⟩ : ∃ n : Nat, t = (n : Int) := ⟨t.toNat, by omega⟩
  rw [Int.natAbs_natCast] at hr
  obtain ⟨he, hm, _⟩ := read_canon hr
  rw [Nat.shiftLeft_eq] at hr hm
  have hn1 : 1 ≤ n := by omega
  have hn2 : n < 2 ^ 17 := by omega
  rcases hm with ⟨e1, h3⟩ | ⟨h3, h4⟩
  · exfalso
    have : j = 149 := by omega
    subst this
    have : 1 * 2 ^ 149 ≤ n * 2 ^ 149 := Nat.mul_le_mul_right _ hn1
    exact absurd (Nat.lt_of_le_of_lt this h3) (by decide +kernel)
  · refine ⟨n * 2 ^ j, 0 - (j : Int), ⟨b, hb, hr, h3, h4, he⟩, ?_, ?_⟩
    · rcases Nat.lt_or_ge j 24 with h | h
      · omega
      · exfalso
        have : 1 * 2 ^ 24 ≤ n * 2 ^ j := Nat.mul_le_mul hn1 (Nat.pow_le_pow_right (by decide) h)
        omega
    · rcases Nat.lt_or_ge 6 j with h | h
      · omega
      · exfalso
        have : n * 2 ^ j < 2 ^ 17 * 2 ^ 6 := by
          calc n * 2 ^ j ≤ n * 2 ^ 6 := Nat.mul_le_mul_left _ (Nat.pow_le_pow_right (by decide) h)
            _ < 2 ^ 17 * 2 ^ 6 := Nat.mul_lt_mul_of_pos_right hn2 (by decide)
        omega
theorem c15_val : Val (fb 1069547520) ((3 * 2 ^ 148 : Nat) : Int) := ⟨1069547520, false, 12582912, -23, by decide +kernel, by decide +kernel, by omega, by decide +kernel⟩
theorem c75_val' : Val (fb 1061158912) ((3 * 2 ^ 147 : Nat) : Int) := ⟨1061158912, false, 12582912, -24, by decide +kernel, by decide +kernel, by omega, by decide +kernel⟩
theorem isHi_val {x : F} {v : Nat} (h : Val x (v : Int)) : isHi x = decide (3 * 2 ^ 148 ≤ v) := by
  have := fge_val h c15_val
  unfold fge at this
  unfold isHi
  rw [this]
  exact decide_eq_decide.2 Int.ofNat_le
theorem flt75_val {x : F} {v : Nat} (h : Val x (v : Int)) : flt x (fb 1061158912) = decide (v < 3 * 2 ^ 147) := by
  rw [flt_val h c75_val']
  exact decide_eq_decide.2 Int.ofNat_lt

/-- What is known of an argument from 1 on. -/
structure High (x : F) : Prop where
  lo : (fgt x (fb 562036736) || feq x (fb 562036736)) = true
  hi : fgt x (fb 1568669696) = false
  base : flt x (fb 1061158912) = false
  step : ∀ k, k < 20 → isHi (hK x k) = true → flt (hK x (k + 1)) (fb 1061158912) = false
  last : isHi (hK x 20) = false
theorem high_of {x : F} {m : Nat} {e : Int} (h : Nm x m e) (h1 : -23 ≤ e) (h2 : e ≤ -7) : High x := by
  have hv := nm_val h
  have hm : 2 ^ 23 ≤ m ∧ m < 2 ^ 24 := by obtain ⟨b, _, _, h3, h4, _⟩ := h; exact ⟨h3, h4⟩
  have p1 : 2 ^ 23 * 2 ^ 126 ≤ m * 2 ^ (e + 149).toNat := Nat.mul_le_mul hm.1 (Nat.pow_le_pow_right (by decide) (by omega))
  have p2 : m * 2 ^ (e + 149).toNat ≤ 2 ^ 24 * 2 ^ 142 := Nat.mul_le_mul (Nat.le_of_lt hm.2) (Nat.pow_le_pow_right (by decide) (by omega))
  refine ⟨?_, ?_, ?_, fun k hk hh => ?_, ?_⟩
  · have := fge_val hv tiny_val
    unfold fge at this
    rw [show fb 562036736 = cTiny from rfl, this]
    refine decide_eq_true (Int.ofNat_le.2 (Nat.le_trans ?_ p1)); decide +kernel
  · have v2 : Val (fb 1568669696) ((2 ^ 209 : Nat) : Int) := ⟨1568669696, false, 8388608, 37, by decide +kernel, by decide +kernel, by omega, by decide +kernel⟩
    rw [fgt_val hv v2]
    refine decide_eq_false fun hh => ?_
    have := Nat.lt_of_lt_of_le (Int.ofNat_lt.1 hh) p2
    exact absurd this (by decide +kernel)
  · rw [flt75_val hv]
    refine decide_eq_false fun hh => ?_
    have := Nat.lt_of_le_of_lt p1 hh
    exact absurd this (by decide +kernel)
  · have va := nm_val (nm_hK h h1 (by omega) k (by omega))
    have vb := nm_val (nm_hK h h1 (by omega) (k + 1) (by omega))
    rw [isHi_val va] at hh
    have hh := of_decide_eq_true hh
    rw [flt75_val vb]
    refine decide_eq_false ?_
    have e1 : (e - (k : Int) + 149).toNat = (e - ((k + 1 : Nat) : Int) + 149).toNat + 1 := by omega
    rw [e1] at hh
    clear e1
    generalize (e - ((k + 1 : Nat) : Int) + 149).toNat = T at *
    rw [show m * 2 ^ (T + 1) = m * 2 ^ T * 2 by rw [Nat.pow_succ, Nat.mul_assoc]] at hh
    generalize m * 2 ^ T = X at *
    omega
  · have va := nm_val (nm_hK h h1 (by omega) 20 (by omega))
    rw [isHi_val va]
    refine decide_eq_false fun hh => ?_
    have p3 : m * 2 ^ (e - ((20 : Nat) : Int) + 149).toNat ≤ 2 ^ 24 * 2 ^ 122 := Nat.mul_le_mul (Nat.le_of_lt hm.2) (Nat.pow_le_pow_right (by decide) (by omega))
    exact absurd (Nat.le_trans hh p3) (by decide +kernel)
theorem high_ofI {t : Int} (h1 : 1 ≤ t) (h2 : t ≤ 100000) : High (ofI t) := by
  obtain ⟨m, e, h, h3, h4⟩ := nm_ofI h1 h2
  exact high_of h h3 h4
theorem hnK_le {u : F} : ∀ (n k : Nat), hnK u n k ≤ k + n
  | 0, k => Nat.le_refl _
  | n + 1, k => by
    cases hl : isHi (hK u k)
    · rw [hnK_stop hl]; omega
    · rw [hnK_step hl]
      have := hnK_le (u := u) n (k + 1)
      omega
theorem hnK_end {u : F} : ∀ (n k : Nat), isHi (hK u (k + n)) = false → isHi (hK u (hnK u n k)) = false
  | 0, k, h => h
  | n + 1, k, h => by
    cases hl : isHi (hK u k)
    · rw [hnK_stop hl]; exact hl
    · rw [hnK_step hl]
      exact hnK_end (u := u) n (k + 1) (by rw [show k + 1 + n = k + (n + 1) by omega]; exact h)
theorem lnH_ok {t : Int} (h1 : 1 ≤ t) (h2 : t ≤ 100000) : Le (lnH (ofI t)) 70 := by
  obtain ⟨m, e, h, h3, h4⟩ := nm_ofI h1 h2
  have hN20 : hN (ofI t) ≤ 20 := by show hnK _ 20 0 ≤ 20; have := hnK_le (u := ofI t) 20 0; omega
  have hend : isHi (hK (ofI t) (hN (ofI t))) = false := hnK_end 20 0 (high_of h h3 h4).last
  unfold lnH
  generalize hN (ofI t) = N at *
  have hnm := nm_hK h h3 (by omega) N (by omega)
  have hnn : NonN (hK (ofI t) N) := by
    obtain ⟨b, hb, hr, _⟩ := hnm
    exact ⟨b, _, _, hb, hr⟩
  have hm : Le (hK (ofI t) N) 3 := by
    have hv := nm_val hnm
    rw [isHi_val hv] at hend
    have hend := of_decide_eq_false hend
    generalize m * 2 ^ (e - (N : Int) + 149).toNat = X at *
    refine (val_le (k := 0) hv (by omega) ?_ ?_).mono (by omega)
    · refine Int.ofNat_lt.2 (Nat.lt_of_lt_of_le (Nat.lt_of_not_le hend) ?_)
      decide +kernel
    · have : (0 : Int) < ((2 ^ (0 + 150 : Int).toNat : Nat) : Int) := by decide +kernel
      omega
  have a1 := sub_to 5 hm leOne (by omega) (by omega) (by omega) (by omega)
  have a2 := fadd_ge (k := 0) hm hnn geOne (leOne.mono (by omega)) (by omega) (by omega) (by omega)
  have t := div_to 6 a1 a2 (by omega) (by omega) (by omega)
  have q := mul_to 14 t t (by omega) (by omega) (by omega)
  have p1 := mul_to 16 q (le_c 1041385765 0 (by decide +kernel)) (by omega) (by omega) (by omega)
  have p2 := add_to 18 p1 (le_c 1045220557 0 (by decide +kernel)) (by omega) (by omega) (by omega) (by omega)
  have p3 := mul_to 34 p2 q (by omega) (by omega) (by omega)
  have p4 := add_to 36 p3 (le_c 1051372203 0 (by decide +kernel)) (by omega) (by omega) (by omega) (by omega)
  have p5 := mul_to 52 p4 q (by omega) (by omega) (by omega)
  have p6 := add_to 54 p5 leOne (by omega) (by omega) (by omega) (by omega)
  have r1 := mul_to 62 t p6 (by omega) (by omega) (by omega)
  have r2 := mul_to 66 (le_c 1073741824 1 (by decide +kernel)) r1 (by omega) (by omega) (by omega)
  have s1 := mul_to 8 (le_ofI2 (n := ((N : Nat) : Int)) (k := 6) (by omega) (by omega)) (le_c 1060205080 0 (by decide +kernel)) (by omega) (by omega) (by omega)
  exact add_to 70 s1 r2 (by omega) (by omega) (by omega) (by omega)

/-- The number of steps up to a float. -/
def stepU (b : Nat) : Nat := (List.range 61).findIdx fun k : Nat => fb b == ofI (k : Int)
theorem stepU_of {b k : Nat} (h : Is b (ofI (k : Int))) (hk : k < 61) : stepU b = k := by
  have key : ∀ k : Fin 61, ((List.range 61).findIdx fun j : Nat => ofI (k.val : Int) == ofI (j : Int)) = k.val := by decide +kernel
  unfold stepU
  rw [h.out]
  exact key ⟨k, hk⟩
theorem ofI_up (k : Nat) (hk : k < 60) : fadd (ofI (k : Int)) (fb 1065353216) = ofI ((k + 1 : Nat) : Int) := by
  have := ofI_add k 1 (by omega) (by omega)
  rw [show fb 1065353216 = ofI ((1 : Nat) : Int) from one_eq, this]
  congr 1
def upOf : Value → Nat
  | .float _ b => stepU b
  | .int _ z => z.toNat
  | _ => 0
def HnRel (x : F) (w : World) (v4 v5 : Value) (wr : World) : Prop := ∃ k m e : Nat, k ≤ 20 ∧ hnK x (20 - k) k = hN x ∧ flt (hK x k) (fb 1061158912) = false ∧ v4 = .float .f32 m ∧ v5 = .float .f32 e ∧ Is m (hK x k) ∧ Is e (ofI (k : Int)) ∧ Below w.heap.size w wr
def HnRelI (x : F) (w : World) (v4 v5 : Value) (wr : World) : Prop := ∃ k m : Nat, k ≤ 20 ∧ hnK x (20 - k) k = hN x ∧ flt (hK x k) (fb 1061158912) = false ∧ v4 = .float .f32 m ∧ v5 = .int .i64 (k : Int) ∧ Is m (hK x k) ∧ Below w.heap.size w wr
theorem ofI_0' : ofI ((0 : Nat) : Int) = fb 0 := by decide +kernel

set_option maxRecDepth 100000 in
set_option maxHeartbeats 1600000 in
theorem LnOfH_any (a : Nat) (x : F) (w : World) (ha : Is a x) (hx : High x) :
    Calls Try.prog 91 #[.float .f32 a] w (RetFZ (lnH x) 0 w) := by
  have g0 := hx.lo
  have g1 := hx.hi
  have HX := Lib.hid hx
  rw [← ha.out] at g0 g1
  have hgt := order_gt
  have heq := order_eq
  have hlt' := order_lt
  clear hx
  go_enter Try.func91, Try.ntmps91
  go_wp2_with fail
  go_loopw [4, 5] (fun v4 v5 wr => HnRel x w v4 v5 wr) (fun _ v5 _ => 20 - upOf v5)
  case atStart => exact ⟨0, a, 0, by omega, rfl, HX.out.base, rfl, rfl, ha, ofI_0'.symm, Below.refl _ _⟩
  case round =>
    obtain ⟨k, m, e, hk, hln, hlow, rfl, rfl, hm, he, hB⟩ := hrel
    have HM := Lib.hid hm
    have HE := Lib.hid he
    have HBr := Lib.hid hB
    have HLN := Lib.hid hln
    have hcm : (fgt (fb m) (fb 1069547520) || feq (fb m) (fb 1069547520)) = isHi (hK x k) := by rw [hm.out]; rfl
    have hlo : flt (fb m) (fb 1061158912) = false := by rw [hm.out]; exact hlow
    clear hm he hB hln hlow
    cases hhi : isHi (hK x k)
    · rw [hhi] at hcm
      have HKN : Hid (hN x = k) := by show _ = _; rw [← HLN.out]; exact hnK_stop hhi
      have HF : Hid (lnH x = hOf (hK x k) k) := by show hOf _ _ = _; rw [HKN.out]
      clear hhi
      go_wp2_with fail
      go_loopw [4, 5] (fun v4 v5 wr' => NoRel (.float .f32 m) (.float .f32 e) wr v4 v5 wr') (fun _ _ _ => 0)
      case atStart => exact ⟨rfl, rfl, rfl⟩
      case round =>
        obtain ⟨rfl, rfl, rfl⟩ := hrel
        go_wp2_with (first | ((with_reducible refine wpList_gate ?_); refine wpList_arith _ _ rfl rfl rfl ?_; intro r n hr))
        rename_i r12 n12 h12 r11 n11 h11 r10 n10 h10 r9 n9 h9 r8 n8 h8 r7 n7 h7 r6 n6 h6 r5 n5 h5 r4 n4 h4 r3 n3 h3 r2 n2 h2 r1 n1 h1 r0 n0 h0
        go_ret2
        refine ⟨r, rfl, ?_, below_drawn HBr.out _⟩
        show fb r = _
        rw [HF.out]
        simp only [hr.out, h0.out, h1.out, h2.out, h3.out, h4.out, h5.out, h6.out, h7.out, h8.out, h9.out, h10.out, h11.out, h12.out, HM.out.out, HE.out.out, fop, hOf, one, two]
    · rw [hhi] at hcm
      have hk20 : k < 20 := by
        rcases Nat.lt_or_ge k 20 with h | h
        · exact h
        · exfalso
          obtain rfl : k = 20 := by omega
          rw [HX.out.last] at hhi; cases hhi
      have HK : Hid (hnK x (20 - (k + 1)) (k + 1) = hN x) := by
        show _ = _
        rw [← HLN.out, show 20 - k = (20 - (k + 1)) + 1 by omega]
        exact (hnK_step hhi).symm
      have HLO := Lib.hid (HX.out.step k hk20 hhi)
      clear hhi
      go_wp2_with (first | ((with_reducible refine wpList_gate ?_); refine wpList_arith _ _ rfl rfl rfl ?_; intro r n hr))
      rename_i r1 n1 h1
      go_roundw
      case rel => exact ⟨k + 1, _, _, by omega, HK.out, HLO.out, rfl, rfl, h1.op HM.out rfl, (hr.op HE.out rfl).trans (ofI_up k (by omega)), below_drawn HBr.out _⟩
      case measure =>
        have e1 := stepU_of HE.out (by omega)
        have e2 := stepU_of ((hr.op HE.out rfl).trans (ofI_up k (by omega))) (by omega)
        simp only [upOf, e1, e2]
        omega

set_option maxRecDepth 100000 in
set_option maxHeartbeats 1600000 in
theorem l03LnH_any (a : Nat) (x : F) (w : World) (ha : Is a x) (hx : High x) :
    Calls Try.prog 48 #[.float .f32 a] w (RetF (lnH x) w) := by
  have HX := Lib.hid hx
  have hgt := order_gt
  have heq := order_eq
  have hlt' := order_lt
  clear hx
  go_enter Try.func48, Try.ntmps48
  go_wp2_with fail
  go_loopw [3, 4] (fun v4 v5 wr => HnRelI x w v4 v5 wr) (fun _ v5 _ => 20 - upOf v5)
  case atStart => exact ⟨0, a, by omega, rfl, HX.out.base, rfl, rfl, ha, Below.refl _ _⟩
  case round =>
    obtain ⟨k, m, hk, hln, hlow, rfl, rfl, hm, hB⟩ := hrel
    have HM := Lib.hid hm
    have HBr := Lib.hid hB
    have HLN := Lib.hid hln
    have hcm : (fgt (fb m) (fb 1069547520) || feq (fb m) (fb 1069547520)) = isHi (hK x k) := by rw [hm.out]; rfl
    have hlo : flt (fb m) (fb 1061158912) = false := by rw [hm.out]; exact hlow
    clear hm hB hln hlow
    cases hhi : isHi (hK x k)
    · rw [hhi] at hcm
      have HKN : Hid (hN x = k) := by show _ = _; rw [← HLN.out]; exact hnK_stop hhi
      have HF : Hid (lnH x = hOf (hK x k) k) := by show hOf _ _ = _; rw [HKN.out]
      clear hhi
      go_wp2_with fail
      go_loopw [3, 4] (fun v4 v5 wr' => NoRel (.float .f32 m) (.int .i64 (k : Int)) wr v4 v5 wr') (fun _ _ _ => 0)
      case atStart => exact ⟨rfl, rfl, rfl⟩
      case round =>
        obtain ⟨rfl, rfl, rfl⟩ := hrel
        go_wp2_with (first | ((with_reducible refine wpList_gate ?_); refine wpList_arith _ _ rfl rfl rfl ?_; intro r n hr) | (go_at_call 90; refine (Ratio_any _ _ _).mono ?_; rintro e w1 ⟨q, rfl, hq, hb⟩))
        rename_i r12 n12 h12 r11 n11 h11 r10 n10 h10 r9 n9 h9 w7 q7 k7 b7 r8 n8 h8 w6 q6 k6 b6 r7 n7 h7 r6 n6 h6 r5 n5 h5 r4 n4 h4 r3 n3 h3 r2 n2 h2 r1 n1 h1 r0 n0 h0
        go_ret
        refine ⟨r, rfl, ?_, below_drawn (below_next (below_drawn (below_next (below_drawn (below_next (below_drawn HBr.out _) b7) _) b6) _) hb) _⟩
        show fb r = _
        rw [HF.out]
        simp only [hr.out, h0.out, h1.out, h2.out, h3.out, h4.out, h5.out, h6.out, h7.out, h8.out, h9.out, h10.out, h11.out, h12.out, hq.out, k6.out, k7.out, ratio7, ratio5, ratio3, fb_ofI, HM.out.out, fop, hOf, one, two]
    · rw [hhi] at hcm
      have hk20 : k < 20 := by
        rcases Nat.lt_or_ge k 20 with h | h
        · exact h
        · exfalso
          obtain rfl : k = 20 := by omega
          rw [HX.out.last] at hhi; cases hhi
      have HK : Hid (hnK x (20 - (k + 1)) (k + 1) = hN x) := by
        show _ = _
        rw [← HLN.out, show 20 - k = (20 - (k + 1)) + 1 by omega]
        exact (hnK_step hhi).symm
      have HLO := Lib.hid (HX.out.step k hk20 hhi)
      clear hhi
      go_wp2_with (first | ((with_reducible refine wpList_gate ?_); refine wpList_arith _ _ rfl rfl rfl ?_; intro r n hr))
      go_roundw
      case rel => exact ⟨k + 1, _, by omega, HK.out, HLO.out, rfl, by go_num, hr.op HM.out rfl, below_drawn HBr.out _⟩
      case measure => simp [upOf]; omega
end Go.Proofs.Ytonmdkhfongmhaa
