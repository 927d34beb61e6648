/- What is drawn out of bytes for the great laws of wells: an aquifer, a site, a number. -/
import Derived.Test.YtbhnnglpakdigaaPick
import Derived.Test.YtbhnnglpakdigaaWlaw
namespace Go.Proofs.Ytbhnnglpakdigaa
open Go.RowKit

/-! Drawn numbers are plain. -/
theorem le_ofI {n : Int} {k : Nat} (h : n.natAbs < 2 ^ k) (hk : k ≤ 24) : Le (ofI n) (k - 1) := by
  have hn : n.natAbs < 16777216 := Nat.lt_of_lt_of_le h (Nat.pow_le_pow_right (by omega) hk)
  obtain ⟨b, j, h1, h2, h3⟩ := ofI_read n hn
  refine ⟨b, _, _, _, h1, h2, by omega, ?_⟩
  by_cases h0 : n.natAbs = 0
  · exact .inl (by rw [h0]; simp)
  · refine .inr ?_
    unfold lg
    have hne : n.natAbs <<< j ≠ 0 := by rw [Nat.shiftLeft_eq]; exact Nat.mul_ne_zero h0 (Nat.pos_iff_ne_zero.1 (Nat.two_pow_pos _))
    have h4 : (n.natAbs <<< j).log2 < k + j := (Nat.log2_lt hne).2 (by rw [Nat.shiftLeft_eq, Nat.pow_add]; exact Nat.mul_lt_mul_of_pos_right h (Nat.two_pow_pos _))
    omega
theorem le_plain {x : F} (h : Le x 18) : plain x = true := by
  obtain ⟨b, s, m, e, rfl, hd, he, hm⟩ := h
  have hv : Val (some b) (Ieee.signed s m (e + 149).toNat) := ⟨b, s, m, e, rfl, hd, he, rfl⟩
  have hb : (Ieee.signed s m (e + 149).toNat).natAbs < 2 ^ 168 := by
    rw [signed_abs]
    have := shl_lt (m := m) (e := e) (base := -149) (k := 18) he hm
    simpa [show e - -149 = e + 149 by omega] using this
  have v1 : Val (some 1233125376) ((2 ^ 169 : Nat) : Int) := ⟨1233125376, false, 8388608, -3, rfl, by decide +kernel, by omega, by decide +kernel⟩
  have v2 : Val (some 3380609024) (-((2 ^ 169 : Nat) : Int)) := ⟨3380609024, true, 8388608, -3, rfl, by decide +kernel, by omega, by decide +kernel⟩
  have p : ((2 ^ 168 : Nat) : Int) ≤ ((2 ^ 169 : Nat) : Int) := by decide +kernel
  unfold plain
  rw [fge_val hv v2, fle_val hv v1]
  generalize Ieee.signed s m (e + 149).toNat = z at *
  generalize (2 ^ 168 : Nat) = P at *
  generalize (2 ^ 169 : Nat) = Q at *
  simp only [Bool.and_eq_true, decide_eq_true_eq]
  omega
theorem geSixtyFour : Ge (some 1115684864) 6 := ⟨1115684864, 8388608, -17, rfl, by decide +kernel, by omega, by omega, by decide +kernel⟩
theorem geSixteen : Ge (some 1098907648) 4 := ⟨1098907648, 8388608, -19, rfl, by decide +kernel, by omega, by omega, by decide +kernel⟩
theorem geEight : Ge (some 1090519040) 3 := ⟨1090519040, 8388608, -20, rfl, by decide +kernel, by omega, by omega, by decide +kernel⟩
/-- A number from about -50 to 50. -/
def numF (z : Nat) : F := fdiv (ofI ((z : Int) - 3200)) (some 1115684864)
theorem numF_le {z : Nat} (h : z < 6401) : Le (numF z) 6 := by
  have := fdiv_le (le_ofI (n := (z : Int) - 3200) (k := 12) (by omega) (by omega)) geSixtyFour (by omega)
  exact this.mono (by omega)
theorem numF_plain {z : Nat} (h : z < 6401) : plain (numF z) = true := le_plain ((numF_le h).mono (by omega))
theorem level_plain {z : Nat} (h : z < 6401) : plain (fdiv (numF z) (some 1098907648)) = true := le_plain ((fdiv_le (numF_le h) geSixteen (by omega)).mono (by omega))
theorem rate_plain {z : Nat} (h : z < 900) : plain (fdiv (ofI (1 + (z : Int))) (some 1090519040)) = true :=
  le_plain ((fdiv_le (le_ofI (n := 1 + (z : Int)) (k := 10) (by omega) (by omega)) geEight (by omega)).mono (by omega))
def trF (p : Nat) : F := fdiv (ofI (1 + (p : Int))) (some 1098907648)
def stF (q : Nat) : F := fdiv (ofI (1 + (q : Int))) (some 1149239296)
theorem okA_drawn {p q : Nat} (hp : p < 800) (hq : q < 500) : okA (trF p) (stF q) = true := by
  have h1 : ∀ p : Fin 800, (fge (trF p.val) (fb 981467136) && fle (trF p.val) (fb 1233125376)) = true := by decide +kernel
  have h2 : ∀ q : Fin 500, (fge (stF q.val) (fb 897581056) && fle (stF q.val) one) = true := by decide +kernel
  have k1 := h1 ⟨p, hp⟩
  have k2 := h2 ⟨q, hq⟩
  unfold okA
  rw [Bool.and_eq_true] at k1 k2
  rw [k1.1, k1.2, k2.1, k2.2]; rfl

/-! The draws. -/
/-- A choice out of a source that is newer than a world. -/
theorem pick_on (b n k m : Nat) (v : Value) (w0 w : World) (hn : n ≤ 4096) (hk : k ≤ 100000) (hm : 2 ≤ m) (hm2 : m ≤ 65536) (hv : BytesAt w0 v n) (hB : Below w0.heap.size w0 w) (hb : w0.heap.size ≤ b) (hs : SrcAt w b v k) :
    Calls Try.prog 57 #[.pointer (some ⟨b, 0, none⟩), .int .i64 m] w fun e w' => ∃ z : Nat, e = .returned (.int .i64 z) ∧ z < m ∧ SrcAt w' b v (k + 2) ∧ Below w0.heap.size w0 w' ∧ w.grownBy w' (some b) :=
  (pick_any b n k m v w hn hk hm hm2 (fun _ hg => hv.far (below_grown hB hg hB.size hb)) hs).mono fun _ _ ⟨z, h1, h2, h3, h4⟩ => ⟨z, h1, h2, h3, below_grown hB h4 hB.size hb, h4⟩
theorem SrcAt.lt {w : World} {b : Nat} {v : Value} {k : Nat} (h : SrcAt w b v k) : b < w.heap.size := by obtain ⟨_, _, _, h⟩ := h; exact h.lt

set_option maxRecDepth 100000 in
set_option maxHeartbeats 800000 in
theorem P6Pick_any (v : Value) (n m : Nat) (w : World) (hn : n ≤ 4096) (hm : 2 ≤ m) (hm2 : m ≤ 65536) (hv : BytesAt w v n) :
    Calls Try.prog 24 #[v, .int .i64 m] w fun e w' => ∃ z : Nat, e = .returned (.int .i64 z) ∧ z < m ∧ Below w.heap.size w w' := by
  have h1 := hv.slice
  have HV := Lib.hid hv
  clear hv
  go_enter Try.func24, Try.ntmps24
  go_wp2_with fail
  refine (l00From_any v w h1).mono ?_
  rintro e w1 ⟨b, rfl, hb, hs, hb1⟩
  go_wp2_with fail
  refine (pick_on b n 0 m v w w1 hn (by omega) hm hm2 HV.out hb1 hb hs).mono ?_
  rintro e w2 ⟨z, rfl, hz, _, hB2, _⟩
  have HB2 := Lib.hid hB2
  clear hB2 hb1 hs
  go_wp2_with fail
  go_ret
  exact ⟨z, rfl, hz, HB2.out⟩

set_option maxRecDepth 100000 in
set_option maxHeartbeats 800000 in
theorem P6Number_any (v : Value) (n : Nat) (w : World) (hn : n ≤ 4096) (hv : BytesAt w v n) :
    Calls Try.prog 36 #[v] w fun e w' => ∃ r z : Nat, e = .returned (.float .f32 r) ∧ z < 6401 ∧ Is r (numF z) ∧ Below w.heap.size w w' := by
  have h1 := hv.slice
  have HV := Lib.hid hv
  clear hv
  have key : ∀ (b : Nat) (w1 : World), w.heap.size ≤ b → SrcAt w1 b v 0 → Below w.heap.size w w1 →
      Calls Try.prog 58 #[.pointer (some ⟨b, 0, none⟩)] w1 fun e w' => ∃ r z : Nat, e = .returned (.float .f32 r) ∧ z < 6401 ∧ Is r (numF z) ∧ Below w.heap.size w w' := by
    intro b w1 hb hs hb1
    have HS := Lib.hid hs
    have HB1 := Lib.hid hb1
    clear hs hb1
    go_enter Try.func58, Try.ntmps58
    go_wp2_with fail
    refine (pick_on b n 0 6401 v w w1 hn (by omega) (by omega) (by omega) HV.out HB1.out hb HS.out).mono ?_
    rintro e w2 ⟨z, rfl, hz, _, hB2, _⟩
    have HB2 := Lib.hid hB2
    have hz1 : (z : Int) < 6401 := by omega
    clear hB2
    go_wp2_with (first | ((with_reducible refine wpList_gate ?_); refine wpList_arith _ _ rfl rfl rfl ?_; intro r n hr))
    go_ret
    exact ⟨_, z, rfl, hz, hr.op (Is.ofI _) rfl, below_drawn HB2.out _⟩
  have KEY := Lib.hid key
  clear key
  go_enter Try.func36, Try.ntmps36
  go_wp2_with fail
  refine (l00From_any v w h1).mono ?_
  rintro e w1 ⟨b, rfl, hb, hs, hb1⟩
  go_wp2_with fail
  refine (KEY.out b w1 hb hs hb1).mono ?_
  rintro e w2 ⟨r, z, rfl, hz, hr, hB2⟩
  have HB2 := Lib.hid hB2
  have HR := Lib.hid hr
  clear hB2 hb1 hs hr
  go_wp2_with fail
  go_ret
  exact ⟨r, z, rfl, hz, HR.out, HB2.out⟩

theorem SrcAt.drewN {w : World} {b k : Nat} {v : Value} (h : SrcAt w b v k) (n : Nat) : SrcAt (w.drewN n) b v k := by obtain ⟨p', sd, h1, h2⟩ := h; exact ⟨p', sd, h1, h2.drewN _⟩
theorem SrcAt.later {w w' : World} {b k : Nat} {v : Value} (h : SrcAt w b v k) (hb : Below w.heap.size w w') : SrcAt w' b v k := by obtain ⟨p', sd, h1, h2⟩ := h; exact ⟨p', sd, h1, h2.later hb⟩
theorem SrcAt.grown {w w' : World} {b k r : Nat} {v : Value} (h : SrcAt w b v k) (hg : w.grownBy w' (some r)) (hne : b ≠ r) : SrcAt w' b v k := by obtain ⟨p', sd, h1, h2⟩ := h; exact ⟨p', sd, h1, h2.grown hg hne⟩
theorem newSt (w : World) : (Instr.alloc 61 true (.tuple #[])).run Try.prog w = .ok (.pointer (some ⟨w.heap.size, 0, none⟩)) (w.alloc (.cells #[.int .i8 0, .int .i8 0, .float .f32 0, .int .i8 0, .int .i8 0] 61)) := by kernel_rfl
theorem sizeSt : (Try.prog.info? 61).map (·.size) = some 5 := by kernel_rfl

set_option maxRecDepth 100000 in
set_option maxHeartbeats 1600000 in
theorem P6Aquifer_any (v : Value) (len : Nat) (w : World) (hn : len ≤ 4096) (hv : BytesAt w v len) :
    Calls Try.prog 22 #[v] w fun e w' => ∃ T S : Nat, e = .returned (.agg #[.float .f32 T, .float .f32 S]) ∧ okA (fb T) (fb S) = true ∧ Below w.heap.size w w' := by
  have h1 := hv.slice
  have HV := Lib.hid hv
  clear hv
  go_enter Try.func22, Try.ntmps22
  go_wp2_with (with_reducible refine wpList_new newA ?_)
  intro R w0 hR1 hR2 hR3 hR4
  go_wp2_with fail
  refine (l00From_any v w0 h1).mono ?_
  rintro e w1 ⟨b, rfl, hb, hs, hb1⟩
  have HB1 := Lib.hid (below_next hR4 hb1)
  have HR1 := Lib.hid (hR3.later hb1)
  have HS1 := Lib.hid hs
  have hbR : R < b := by omega
  have hwb : w.heap.size ≤ b := by omega
  clear hR3 hR4 hs hb1
  go_wp2_with fail
  refine (pick_on b len 0 800 v w w1 hn (by omega) (by omega) (by omega) HV.out HB1.out hwb HS1.out).mono ?_
  rintro e w2 ⟨p, rfl, hp, hs2, hB2, hg2⟩
  have HB2 := Lib.hid hB2
  have HR2 := Lib.hid (HR1.out.grown hg2 (by omega))
  have HS2 := Lib.hid hs2
  have hp1 : (p : Int) < 800 := by omega
  clear hB2 hg2 hs2
  go_wp2_with (first | ((with_reducible refine wpList_gate ?_); refine wpList_arith _ _ rfl rfl rfl ?_; intro r n hr))
  have HT : Hid (Is r (trF p)) := hr.op (Is.ofI _) rfl
  refine (pick_on b len 2 500 v w _ hn (by omega) (by omega) (by omega) HV.out (below_drawn HB2.out _) hwb (HS2.out.drewN _)).mono ?_
  rintro e w3 ⟨q, rfl, hq, _, hB3, hg3⟩
  have HB3 := Lib.hid hB3
  have HR3 := Lib.hid ((HR2.out.drewN _).grown hg3 (by omega))
  have hq1 : (q : Int) < 500 := by omega
  clear hB3 hg3 hr
  go_wp2_with (first | ((with_reducible refine wpList_gate ?_); refine wpList_arith _ _ rfl rfl rfl ?_; intro r2 n2 hr2) | ((with_reducible refine wpList_gateS ?_); refine wpList_put (cells := #[.float .f32 r, .float .f32 r2]) (HR3.out.drewN _) sizeAq rfl (by simp [Value.oneCell']) rfl rfl ?_))
  intro w4 s4 b4 k4
  have HS : Hid (Is r2 (stF q)) := hr2.op (Is.ofI _) rfl
  have HB4 := Lib.hid (below_grown (below_drawn HB3.out _) k4 HB3.out.size hR1)
  clear k4 hr2
  go_wp2_with fail
  refine ret_cell1 rfl rfl (run_loadVar_row w4 R _ _ _ _ _ b4 Try.underlying30 rfl (by kernel_rfl)) rfl ⟨r, r2, rfl, ?_, HB4.out⟩
  rw [HT.out.out, HS.out.out]
  exact okA_drawn hp hq

set_option maxRecDepth 100000 in
set_option maxHeartbeats 3200000 in
theorem P6Site_any (v : Value) (len : Nat) (w : World) (hn : len ≤ 4096) (hv : BytesAt w v len) :
    Calls Try.prog 35 #[v] w fun e w' => ∃ X Y R px py : Nat, e = .returned (.agg #[.int .i8 X, .int .i8 Y, .float .f32 R, .int .i8 px, .int .i8 py]) ∧ X < 6 ∧ Y < 6 ∧ px < 10 ∧ py < 10 ∧ plain (fb R) = true ∧ Below w.heap.size w w' := by
  have h1 := hv.slice
  have HV := Lib.hid hv
  clear hv
  go_enter Try.func35, Try.ntmps35
  go_wp2_with (with_reducible refine wpList_new newSt ?_)
  intro R w0 hR1 hR2 hR3 hR4
  go_wp2_with fail
  refine (l00From_any v w0 h1).mono ?_
  rintro e w1 ⟨b, rfl, hb, hs, hb1⟩
  have HB1 := Lib.hid (below_next hR4 hb1)
  have HR1 := Lib.hid (hR3.later hb1)
  have HS1 := Lib.hid hs
  have hbR : R < b := by omega
  have hwb : w.heap.size ≤ b := by omega
  clear hR3 hR4 hs hb1
  go_wp2_with fail
  refine (pick_on b len 0 6 v w w1 hn (by omega) (by omega) (by omega) HV.out HB1.out hwb HS1.out).mono ?_
  rintro e w2 ⟨X, rfl, hX, hs2, hB2, hg2⟩
  have HB2 := Lib.hid hB2
  have HR2 := Lib.hid (HR1.out.grown hg2 (by omega))
  have HS2 := Lib.hid hs2
  have hX1 : (X : Int) < 6 := by omega
  clear hB2 hg2 hs2
  go_wp2_with fail
  refine (pick_on b len 2 6 v w w2 hn (by omega) (by omega) (by omega) HV.out HB2.out hwb HS2.out).mono ?_
  rintro e w3 ⟨Y, rfl, hY, hs3, hB3, hg3⟩
  have HB3 := Lib.hid hB3
  have HR3 := Lib.hid (HR2.out.grown hg3 (by omega))
  have HS3 := Lib.hid hs3
  have hY1 : (Y : Int) < 6 := by omega
  clear hB3 hg3 hs3
  go_wp2_with fail
  refine (pick_on b len 4 900 v w w3 hn (by omega) (by omega) (by omega) HV.out HB3.out hwb HS3.out).mono ?_
  rintro e w4 ⟨q, rfl, hq, hs4, hB4, hg4⟩
  have HB4 := Lib.hid hB4
  have HR4 := Lib.hid (HR3.out.grown hg4 (by omega))
  have HS4 := Lib.hid hs4
  have hq1 : (q : Int) < 900 := by omega
  have hRl : R < w4.heap.size := HR4.out.lt
  clear hB4 hg4 hs4
  go_wp2_with (first | ((with_reducible refine wpList_gate ?_); refine wpList_arith _ _ rfl rfl rfl ?_; intro r2 n2 hr2) | (with_reducible refine wpList_new newSt ?_))
  intro A w5 hA1 hA2 hA3 hA4
  have HQ : Hid (fb r2 = fdiv (ofI (1 + (q : Int))) (some 1090519040)) := hr2.op (Is.ofI _) rfl
  have HB5 := Lib.hid (below_next (below_drawn HB4.out n2) hA4)
  have HR5 := Lib.hid ((HR4.out.drewN n2).later hA4)
  have HS5 := Lib.hid ((HS4.out.drewN n2).later hA4)
  have hbA : b < A := by have := (HS4.out.drewN n2).lt; omega
  have hwA : w.heap.size ≤ A := by omega
  clear hA4 hr2
  go_wp2_with ((with_reducible refine wpList_gateS ?_); refine wpList_put (cells := #[.int .i8 X, .int .i8 Y, .float .f32 r2, .int .i8 0, .int .i8 0]) hA3 sizeSt rfl (by simp [Value.oneCell']) rfl rfl ?_)
  intro w6 s6 b6 k6
  have HB6 := Lib.hid (below_grown HB5.out k6 HB5.out.size hwA)
  have HR6 := Lib.hid (HR5.out.grown k6 (by omega))
  have HS6 := Lib.hid (HS5.out.grown k6 (by omega))
  have HA6 := Lib.hid b6
  clear hA3 k6 s6 b6
  go_wp2_with fail
  refine (pick_on b len 6 10 v w w6 hn (by omega) (by omega) (by omega) HV.out HB6.out hwb HS6.out).mono ?_
  rintro e w7 ⟨px, rfl, hpx, hs7, hB7, hg7⟩
  have HB7 := Lib.hid hB7
  have HR7 := Lib.hid (HR6.out.grown hg7 (by omega))
  have HA7 := Lib.hid (HA6.out.grown hg7 (by omega))
  have HS7 := Lib.hid hs7
  have hpx1 : (px : Int) < 10 := by omega
  clear hB7 hg7 hs7
  go_wp2_with ((with_reducible refine wpList_gateS ?_); refine wpList_put1 (i := 3) (v := .int .i8 px) size8 HA7.out (by simp) rfl rfl rfl rfl ?_)
  intro w8 s8 b8 k8
  have HB8 := Lib.hid (below_grown HB7.out k8 HB7.out.size hwA)
  have HR8 := Lib.hid (HR7.out.grown k8 (by omega))
  have HS8 := Lib.hid (HS7.out.grown k8 (by omega))
  have HA8 : Hid (Blk w8 A #[.int .i8 X, .int .i8 Y, .float .f32 r2, .int .i8 px, .int .i8 0] 61) := b8
  clear k8 s8 b8
  go_wp2_with fail
  refine (pick_on b len 8 10 v w w8 hn (by omega) (by omega) (by omega) HV.out HB8.out hwb HS8.out).mono ?_
  rintro e w9 ⟨py, rfl, hpy, hs9, hB9, hg9⟩
  have HB9 := Lib.hid hB9
  have HR9 := Lib.hid (HR8.out.grown hg9 (by omega))
  have HA9 := Lib.hid (HA8.out.grown hg9 (by omega))
  have hpy1 : (py : Int) < 10 := by omega
  clear hB9 hg9 hs9
  go_wp2_with ((with_reducible refine wpList_gateS ?_); refine wpList_put1 (i := 4) (v := .int .i8 py) size8 HA9.out (by simp) rfl rfl rfl rfl ?_)
  intro w10 s10 b10 k10
  have HB10 := Lib.hid (below_grown HB9.out k10 HB9.out.size hwA)
  have HR10 := HR9.out.grown k10 (by omega)
  have HA10 : Blk w10 A #[.int .i8 X, .int .i8 Y, .float .f32 r2, .int .i8 px, .int .i8 py] 61 := b10
  clear k10 s10 b10
  go_wp2_with (first | ((with_reducible refine wpList_get HA10 Try.underlying61 rfl (by kernel_rfl) ?_ ?_); rfl) | ((with_reducible refine wpList_gateS ?_); refine wpList_put (cells := #[.int .i8 X, .int .i8 Y, .float .f32 r2, .int .i8 px, .int .i8 py]) HR10 sizeSt rfl (by simp [Value.oneCell']) rfl rfl ?_))
  intro w11 s11 b11 k11
  go_wp2_with fail
  refine ret_cell1 rfl rfl (run_loadVar_row w11 R _ _ _ _ _ b11 Try.underlying61 rfl (by kernel_rfl)) rfl ⟨X, Y, r2, px, py, rfl, hX, hY, hpx, hpy, ?_, ?_⟩
  · rw [HQ.out]; exact rate_plain hq
  · exact below_grown HB10.out k11 HB10.out.size hR1
end Go.Proofs.Ytbhnnglpakdigaa
