/- The argument of a well: the walk. -/
import Derived.Test.YtonmdkhfongmhaaWok
namespace Go.Proofs.Ytonmdkhfongmhaa
open Go.RowKit

def tinyMax (x : F) : F := if flt x cTiny then cTiny else x

/-- 'max' of a number and the least argument. -/
theorem run_max_tiny {P : Program} {r : Nat} {v : Int} (hv : Val (fb r) v) (ts : Array TypeId) (t : TypeId) (w : World) :
    (Builtin.max_ ts t #[.float .f32 r, .float .f32 562036736]).run P w = .ok (.float .f32 (if flt (fb r) cTiny then 562036736 else r)) w := by
  have ho : FloatKind.f32.format.order r 562036736 = ford (fb r) cTiny := order32 r 562036736
  have h1 := ford_val hv tiny_val
  rw [flt_val hv tiny_val]
  rcases Int.lt_trichotomy v ((2 ^ 89 : Nat) : Int) with h | h | h
  · rw [Int.compare_eq_lt.2 h] at h1
    rw [if_pos (decide_eq_true h)]
    simp [Builtin.max_, Builtin.max2, ho, h1]
  · rw [Int.compare_eq_eq.2 h] at h1
    rw [if_neg (by rw [decide_eq_false (by omega)]; decide)]
    have hneg : (FloatKind.f32.decode r).neg = false := by
      obtain ⟨b, s, m, e, hb, hr, he, hve⟩ := hv
      have hbr : b = r := by
        unfold fb fbOf at hb
        split at hb <;> cases hb
        rfl
      subst hbr
      show (Ieee.single.read b).neg = false
      rw [hr]
      cases s
      · rfl
      · exfalso
        have hs : Ieee.signed true m (e + 149).toNat = -((m <<< (e + 149).toNat : Nat) : Int) := rfl
        rw [hs] at hve
        clear hs
        generalize m <<< (e + 149).toNat = M at hve
        have : (0 : Int) < ((2 ^ 89 : Nat) : Int) := by decide +kernel
        omega
    simp [Builtin.max_, Builtin.max2, ho, h1, hneg]
  · rw [Int.compare_eq_gt.2 h] at h1
    rw [if_neg (by rw [decide_eq_false (by omega)]; decide)]
    simp [Builtin.max_, Builtin.max2, ho, h1]

theorem max_is {P : Program} {r : Nat} (hv : ∃ v, Val (fb r) v) (ts : Array TypeId) (t : TypeId) (w : World) :
    ∃ r', (Builtin.max_ ts t #[.float .f32 r, .float .f32 562036736]).run P w = .ok (.float .f32 r') w ∧ Is r' (tinyMax (fb r)) := by
  obtain ⟨v, hv⟩ := hv
  refine ⟨_, run_max_tiny hv ts t w, ?_⟩
  show fb _ = tinyMax _
  unfold tinyMax
  split
  · rfl
  · rfl
theorem raw_is {dx dy t : Int} {T' S' : F} {d r2 r1 r0 r T1 S1 : Nat} (hT : fb T1 = T') (hS : fb S1 = S') (hd : fb d = distF dx dy) (h2 : Is r2 (fop .mul (fb d) (fb S1))) (h1 : Is r1 (fop .mul (fb 1082130432) (fb T1))) (h0 : Is r0 (fop .mul (fb r1) (fb (floatOfInt .f32 t)))) (h : Is r (fop .quo (fb r2) (fb r0))) : fb r = rawF T' S' dx dy t := by
  rw [h.out, h0.out, h1.out, h2.out, fb_ofI, hd, hT, hS]
  rfl
theorem sq_pos {d : Int} (h : d ≠ 0) : 0 < d * d := by
  have h2 : d * d = ((d.natAbs * d.natAbs : Nat) : Int) := Int.natAbs_mul_self.symm
  have h3 : 1 * 1 ≤ d.natAbs * d.natAbs := Nat.mul_le_mul (by omega) (by omega)
  omega
theorem distF_some {dx dy : Int} (h : dx ≠ 0 ∨ dy ≠ 0) (hx : 0 ≤ dx * dx) (hy : 0 ≤ dy * dy) : fb (floatOfInt .f32 (dx * dx + dy * dy)) = distF dx dy := by
  rw [fb_ofI]
  unfold distF
  rw [if_neg]
  rcases h with h | h
  · have := sq_pos h; omega
  · have := sq_pos h; omega
theorem dist_zero {dx dy : Int} {r : Nat} (hx : dx.natAbs ≤ 200) (hy : dy.natAbs ≤ 200) (h : Is r (ofI (dx * dx + dy * dy))) (hf : feq (fb r) (fb 0) = true) : fb 1031798784 = distF dx dy := by
  obtain ⟨h1, h2⟩ := dist_sq dx dy hx hy
  obtain ⟨n, hn⟩ : ∃ n : Nat, dx * dx + dy * dy = n := ⟨(dx * dx + dy * dy).toNat, by omega⟩
  rw [h.out, fb0, hn, ofI_zero n (by omega)] at hf
  have := of_decide_eq_true hf
  unfold distF
  rw [if_pos (by omega)]
theorem dist_some {dx dy : Int} {r : Nat} (hx : dx.natAbs ≤ 200) (hy : dy.natAbs ≤ 200) (h : Is r (ofI (dx * dx + dy * dy))) (hf : feq (fb r) (fb 0) = false) : fb r = distF dx dy := by
  obtain ⟨h1, h2⟩ := dist_sq dx dy hx hy
  obtain ⟨n, hn⟩ : ∃ n : Nat, dx * dx + dy * dy = n := ⟨(dx * dx + dy * dy).toNat, by omega⟩
  rw [h.out, fb0, hn, ofI_zero n (by omega)] at hf
  have := of_decide_eq_false hf
  unfold distF
  rw [if_neg (by omega), h.out]

theorem dist_is {dx dy : Int} {r1 r2 r3 : Nat} (hx : dx.natAbs ≤ 200) (hy : dy.natAbs ≤ 200) (h1 : Is r1 (fop .mul (fb (floatOfInt .f32 dx)) (fb (floatOfInt .f32 dx)))) (h2 : Is r2 (fop .mul (fb (floatOfInt .f32 dy)) (fb (floatOfInt .f32 dy)))) (h3 : Is r3 (fop .add (fb r1) (fb r2))) : Is r3 (ofI (dx * dx + dy * dy)) := by
  show fb r3 = _
  rw [h3.out, h1.out, h2.out, fb_ofI, fb_ofI]
  show fadd (fmul _ _) (fmul _ _) = _
  rw [ofI_sq dx (by omega), ofI_sq dy (by omega)]
  have e1 : dx * dx = ((dx.natAbs * dx.natAbs : Nat) : Int) := Int.natAbs_mul_self.symm
  have e2 : dy * dy = ((dy.natAbs * dy.natAbs : Nat) : Int) := Int.natAbs_mul_self.symm
  have h3 : dx.natAbs * dx.natAbs ≤ 200 * 200 := Nat.mul_le_mul hx hx
  have h4 : dy.natAbs * dy.natAbs ≤ 200 * 200 := Nat.mul_le_mul hy hy
  rw [e1, e2]
  exact ofI_add _ _ (by omega) (by omega)

set_option maxRecDepth 100000 in
set_option maxHeartbeats 1600000 in
theorem argument_any (T S R : Nat) (X Y x y t : Int) (w : World) (hA : okA (fb T) (fb S) = true) (hX : -100 ≤ X ∧ X ≤ 100) (hY : -100 ≤ Y ∧ Y ≤ 100) (hx : -100 ≤ x ∧ x ≤ 100) (hy : -100 ≤ y ∧ y ≤ 100) (ht : 1 ≤ t ∧ t ≤ 100000) :
    Calls Try.prog 125 #[.agg #[.float .f32 T, .float .f32 S], .agg #[.int .i8 X, .int .i8 Y, .float .f32 R], .int .i64 x, .int .i64 y, .int .i64 t] w (RetF (argF (fb T) (fb S) (x - X) (y - Y) t) w) := by
  obtain ⟨x0, x1⟩ := hX
  obtain ⟨y0, y1⟩ := hY
  obtain ⟨p0, p1⟩ := hx
  obtain ⟨q0, q1⟩ := hy
  obtain ⟨t0, t1⟩ := ht
  have HA := Lib.hid hA
  have heq := order_eq
  clear hA
  go_enter Try.func125, Try.ntmps125
  go_wp2_with (with_reducible refine wpList_box rfl ?_)
  intro bA wA hA1 hA2 hA3 hA4
  go_wp2_with (with_reducible refine wpList_box rfl ?_)
  intro bW wW hB1 hB2 hB3 hB4
  have a0 : wW.cell? ⟨bA, 0, none⟩ = some (.float .f32 T) := (hA3.later hB4).at rfl
  have a1 : wW.cell? ⟨bA, 1, none⟩ = some (.float .f32 S) := (hA3.later hB4).at rfl
  have c0 : wW.cell? ⟨bW, 0, none⟩ = some (.int .i8 X) := hB3.at rfl
  have c1 : wW.cell? ⟨bW, 1, none⟩ = some (.int .i8 Y) := hB3.at rfl
  have HB := Lib.hid (below_next hA4 hB4)
  clear hA3 hA4 hB3 hB4
  go_wp2_with fail
  go_quiet (fail)
  go_wp2_with (first | ((with_reducible refine wpList_gate ?_); refine wpList_arith _ _ rfl rfl rfl ?_; intro r n hr))
  · rename_i r6 n6 h6 r5 n5 h5 r4 n4 h4 hf r2 n2 h2 r1 n1 h1 r0 n0 h0 K1 HK1 K2 HK2
    have hD := dist_is (dx := x - X) (dy := y - Y) (by omega) (by omega) h6 h5 h4
    have hR := raw_is (dx := x - X) (dy := y - Y) (t := t) rfl rfl (dist_zero (by omega) (by omega) hD hf) h2 h1 h0 hr
    have hV : ∃ v, Val (fb r) v := by rw [hR]; exact (raw_le HA.out (by omega) (by omega) t0 t1).val
    obtain ⟨q, hmax, hq⟩ := max_is (P := Try.prog) hV #[24, 24] 24 (wW.drewN (nq + n6 + n5 + n4 + n2 + n1 + n0 + n))
    rw [hmax]
    refine HK2 _ _ ?_
    go_wp2_with fail
    go_ret
    refine ⟨q, rfl, ?_, below_drawn HB.out _⟩
    rw [hR] at hq
    exact hq
  · rename_i r6 n6 h6 r5 n5 h5 r4 n4 h4 hf r2 n2 h2 r1 n1 h1 r0 n0 h0 K1 HK1 K2 HK2
    have hD := dist_is (dx := x - X) (dy := y - Y) (by omega) (by omega) h6 h5 h4
    have hR := raw_is (dx := x - X) (dy := y - Y) (t := t) rfl rfl (dist_some (by omega) (by omega) hD hf) h2 h1 h0 hr
    have hV : ∃ v, Val (fb r) v := by rw [hR]; exact (raw_le HA.out (by omega) (by omega) t0 t1).val
    obtain ⟨q, hmax, hq⟩ := max_is (P := Try.prog) hV #[24, 24] 24 (wW.drewN (nq + n6 + n5 + n4 + n2 + n1 + n0 + n))
    rw [hmax]
    refine HK2 _ _ ?_
    go_wp2_with fail
    go_ret
    refine ⟨q, rfl, ?_, below_drawn HB.out _⟩
    rw [hR] at hq
    exact hq

set_option maxRecDepth 100000 in
set_option maxHeartbeats 1600000 in
theorem l03Argument_any (T S R : Nat) (X Y x y t : Int) (w : World) (hA : okA (fb T) (fb S) = true) (hX : -100 ≤ X ∧ X ≤ 100) (hY : -100 ≤ Y ∧ Y ≤ 100) (hx : -100 ≤ x ∧ x ≤ 100) (hy : -100 ≤ y ∧ y ≤ 100) (ht : 1 ≤ t ∧ t ≤ 100000) :
    Calls Try.prog 118 #[.agg #[.float .f32 T, .float .f32 S], .agg #[.int .i8 X, .int .i8 Y, .float .f32 R], .int .i64 x, .int .i64 y, .int .i64 t] w (RetF (argF (fb T) (fb S) (x - X) (y - Y) t) w) := by
  obtain ⟨x0, x1⟩ := hX
  obtain ⟨y0, y1⟩ := hY
  obtain ⟨p0, p1⟩ := hx
  obtain ⟨q0, q1⟩ := hy
  obtain ⟨t0, t1⟩ := ht
  have HA := Lib.hid hA
  have hlt := order_lt
  clear hA
  obtain ⟨dx, hdx⟩ : ∃ dx, x - X = dx := ⟨_, rfl⟩
  obtain ⟨dy, hdy⟩ : ∃ dy, y - Y = dy := ⟨_, rfl⟩
  rw [hdx, hdy]
  have hds := dist_sq dx dy (by omega) (by omega)
  have hxx : 0 ≤ dx * dx ∧ dx * dx ≤ 40000 := by have := dist_sq dx 0 (by omega) (by decide); have h2 : dx * dx = ((dx.natAbs * dx.natAbs : Nat) : Int) := Int.natAbs_mul_self.symm; have h3 : dx.natAbs * dx.natAbs ≤ 200 * 200 := Nat.mul_le_mul (by omega) (by omega); omega
  have hyy : 0 ≤ dy * dy ∧ dy * dy ≤ 40000 := by have h2 : dy * dy = ((dy.natAbs * dy.natAbs : Nat) : Int) := Int.natAbs_mul_self.symm; have h3 : dy.natAbs * dy.natAbs ≤ 200 * 200 := Nat.mul_le_mul (by omega) (by omega); omega
  obtain ⟨hxx0, hxx1⟩ := hxx
  obtain ⟨hyy0, hyy1⟩ := hyy
  go_enter Try.func118, Try.ntmps118
  go_wp2_with (with_reducible refine wpList_box rfl ?_)
  intro bA wA hA1 hA2 hA3 hA4
  go_wp2_with (with_reducible refine wpList_box rfl ?_)
  intro bW wW hB1 hB2 hB3 hB4
  have a0 : wW.cell? ⟨bA, 0, none⟩ = some (.float .f32 T) := (hA3.later hB4).at rfl
  have a1 : wW.cell? ⟨bA, 1, none⟩ = some (.float .f32 S) := (hA3.later hB4).at rfl
  have c0 : wW.cell? ⟨bW, 0, none⟩ = some (.int .i8 X) := hB3.at rfl
  have c1 : wW.cell? ⟨bW, 1, none⟩ = some (.int .i8 Y) := hB3.at rfl
  have HB := Lib.hid (below_next hA4 hB4)
  clear hA3 hA4 hB3 hB4
  go_wp2_with (first | ((with_reducible refine wpList_gate ?_); refine wpList_arith _ _ rfl rfl rfl ?_; intro r n hr))
  · rename_i e1 e2 r2 n2 h2 r1 n1 h1 r0 n0 h0 K HK hf
    have hD : fb 1031798784 = distF dx dy := by rw [e1, show dy = 0 by simpa using e2]; rfl
    have hR := raw_is (dx := dx) (dy := dy) (t := t) rfl rfl hD h0 h2 h1 hr
    go_ret
    refine ⟨_, rfl, ?_, below_drawn HB.out _⟩
    show fb _ = argF _ _ _ _ _
    unfold argF
    rw [← hR, show cTiny = fb 562036736 from rfl, hf]
    rfl
  · rename_i e1 e2 r2 n2 h2 r1 n1 h1 r0 n0 h0 hf
    have hD : fb 1031798784 = distF dx dy := by rw [e1, show dy = 0 by simpa using e2]; rfl
    have hR := raw_is (dx := dx) (dy := dy) (t := t) rfl rfl hD h0 h2 h1 hr
    go_ret
    refine ⟨_, rfl, ?_, below_drawn HB.out _⟩
    show fb _ = argF _ _ _ _ _
    unfold argF
    rw [← hR, show cTiny = fb 562036736 from rfl, hf]
    rfl
  · rename_i e1 e2 r2 n2 h2 r1 n1 h1 r0 n0 h0 K HK hf
    have hD : fb (floatOfInt .f32 (dy * dy)) = distF dx dy := by rw [← distF_some (.inr (by simpa using e2)) hxx0 hyy0, e1]; simp
    have hR := raw_is (dx := dx) (dy := dy) (t := t) rfl rfl hD h0 h2 h1 hr
    go_ret
    refine ⟨_, rfl, ?_, below_drawn HB.out _⟩
    show fb _ = argF _ _ _ _ _
    unfold argF
    rw [← hR, show cTiny = fb 562036736 from rfl, hf]
    rfl
  · rename_i e1 e2 r2 n2 h2 r1 n1 h1 r0 n0 h0 hf
    have hD : fb (floatOfInt .f32 (dy * dy)) = distF dx dy := by rw [← distF_some (.inr (by simpa using e2)) hxx0 hyy0, e1]; simp
    have hR := raw_is (dx := dx) (dy := dy) (t := t) rfl rfl hD h0 h2 h1 hr
    go_ret
    refine ⟨_, rfl, ?_, below_drawn HB.out _⟩
    show fb _ = argF _ _ _ _ _
    unfold argF
    rw [← hR, show cTiny = fb 562036736 from rfl, hf]
    rfl
  · rename_i e1 r2 n2 h2 r1 n1 h1 r0 n0 h0 K HK hf
    have hD : fb (floatOfInt .f32 (dx * dx + dy * dy)) = distF dx dy := distF_some (.inl e1) hxx0 hyy0
    have hR := raw_is (dx := dx) (dy := dy) (t := t) rfl rfl hD h0 h2 h1 hr
    go_ret
    refine ⟨_, rfl, ?_, below_drawn HB.out _⟩
    show fb _ = argF _ _ _ _ _
    unfold argF
    rw [← hR, show cTiny = fb 562036736 from rfl, hf]
    rfl
  · rename_i e1 r2 n2 h2 r1 n1 h1 r0 n0 h0 hf
    have hD : fb (floatOfInt .f32 (dx * dx + dy * dy)) = distF dx dy := distF_some (.inl e1) hxx0 hyy0
    have hR := raw_is (dx := dx) (dy := dy) (t := t) rfl rfl hD h0 h2 h1 hr
    go_ret
    refine ⟨_, rfl, ?_, below_drawn HB.out _⟩
    show fb _ = argF _ _ _ _ _
    unfold argF
    rw [← hR, show cTiny = fb 562036736 from rfl, hf]
    rfl
end Go.Proofs.Ytonmdkhfongmhaa
