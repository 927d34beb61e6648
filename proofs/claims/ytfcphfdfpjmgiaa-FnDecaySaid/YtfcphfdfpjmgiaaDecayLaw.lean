/- The law on decay: its walk. -/
import Derived.Test.YtfcphfdfpjmgiaaDecY
import Derived.Test.YtfcphfdfpjmgiaaBrX
import Derived.Deep.CutRange
namespace Go.Proofs.Ytfcphfdfpjmgiaa
open Go.RowKit

theorem below_toD {w wr w' : World} (h : Below w.heap.size w wr) (h2 : Below wr.heap.size wr w') : Below w.heap.size w w' := h.trans (h2.mono h.size)
theorem drawn_setS {x : Br} {s : Nat → Nat} {i r : Nat} (h : DrawnB { x with s := s }) (hi : i < 64) (hh : hasB x.gr.wide x.gr.high i = true) (hr : SaltD r) : DrawnB { x with s := upd s i r } := by
  refine ⟨h.gr, h.room, fun j hj hb => ?_, fun j hj => ?_⟩
  · have := h.cell j hj hb
    refine ⟨?_, this.2⟩
    show SaltD (upd s i r j)
    unfold upd
    split
    · exact hr
    · exact this.1
  · have := h.out j hj
    refine ⟨?_, this.2⟩
    show upd s i r j = 0
    unfold upd
    by_cases e : j = i
    · subst e
      rcases hj with h1 | h1
      · omega
      · have h1 : hasB x.gr.wide x.gr.high j = false := h1
        rw [hh] at h1; cases h1
    · rw [if_neg e]; exact this.1
section
attribute [local semireducible] wpSoft
variable {P : Program} {ops : Array Oper} {C : World → Prop} {S : FuncId → Array Value → Value → Prop}
theorem soft_arithG {Q : Act → Prop} {a : Act} {rest : List Oper} {dst : Option Tmp} {op : BinOp} {t t2 ty : TypeId} {X Y : Operand} {pos : String} {after : Array Edge} {gd : Option (Nat × Bool)} (hgd : Region.wanted ⟨dst, .binOp op t X Y t2, ty, pos, after, gd⟩ (yielded ops a.tmps) = true) (hC : ∀ w n, C w → C (w.drewN n))
    (x y : Nat) (ho : arith op = true) (hx : a.eval X = .float .f32 x) (hy : a.eval Y = .float .f32 y)
    (h : ∀ r, Is r (fop op (fb x) (fb y)) → wpSoft P ops C S Q rest (a.put dst (.float .f32 r))) :
    wpSoft P ops C S Q (⟨dst, .binOp op t X Y t2, ty, pos, after, gd⟩ :: rest) a := by
  show sOp P ops C S _ _ a
  unfold sOp
  rw [if_pos hgd]
  refine ⟨fun w hw => ?_, fun u hu => ?_⟩
  · obtain ⟨r, n, h1, _⟩ := run_arith (P := P) w (t := t) (x := x) (y := y) ho
    rw [execOp_bin hx hy h1]
    exact hC w n hw
  · obtain ⟨w, hw, hu⟩ := hu
    obtain ⟨r, n, h1, h2⟩ := run_arith (P := P) w (t := t) (x := x) (y := y) ho
    rw [execOp_bin hx hy h1] at hu
    subst hu
    exact h r h2
end
def DcRel (x : Br) (w : World) (B C : Nat) (v : Value) (wr : World) : Prop :=
  ∃ (k : Nat) (s' : Nat → Nat), k ≤ 64 ∧ v = .int .i64 k ∧ DrawnB { x with s := s' } ∧ Blk wr C (arrB { x with s := s' }) 54 ∧ Blk wr B (arrB x) 54 ∧ Below w.heap.size w wr
def CtD (w wL : World) (v : Value) (wr : World) : Prop := ∃ i : Nat, i ≤ 64 ∧ v = .int .i64 i ∧ Below w.heap.size w wr ∧ Below wL.heap.size wL wr
set_option maxRecDepth 1000000 in
set_option maxHeartbeats 32000000 in
theorem law_Decay (v v' : Value) (n n' : Nat) (w : World) (hn0 : n < 9223372036854775808) (hn0' : n' < 9223372036854775808) (hv : BytesAt w v n) (hv' : BytesAt w v' n') :
    Calls Try.prog 7 #[v, v'] w (RetB true w) := by
  have s1 : ∃ a cap, v = .slice a n cap := by obtain ⟨a, cap, e, _⟩ := hv; exact ⟨a, cap, e⟩
  have s2 : ∃ a cap, v' = .slice a n' cap := by obtain ⟨a, cap, e, _⟩ := hv'; exact ⟨a, cap, e⟩
  have HV := Lib.hid hv
  have HS1 := Lib.hid s1
  have HS2 := Lib.hid s2
  have HV' := Lib.hid hv'
  clear hv hv' s1 s2
  by_cases hlong : 3000 < n ∨ 3000 < n'
  · have hl : Hid ((decide (3000 < n) || decide (3000 < n')) = true) := by
      show _ = true
      rcases hlong with h | h
      · rw [decide_eq_true h]; rfl
      · rw [decide_eq_true h, Bool.or_true]
    clear hlong
    go_enter Try.func7, Try.ntmps7
    go_wp2_with fail
    refine (a2Long_any v v' n n' w HS1.out HS2.out hn0 hn0').mono ?_
    rw [hl.out]
    rintro e w1 ⟨rfl, rfl⟩
    go_wp2_with fail
    go_ret
    exact ⟨rfl, Below.refl _ _⟩
  have hl : Hid ((decide (3000 < n) || decide (3000 < n')) = false) := by
    show _ = false
    rw [decide_eq_false (by omega), decide_eq_false (by omega)]; rfl
  have hn : n ≤ 4096 := by omega
  have hn' : n' ≤ 4096 := by omega
  clear hlong
  go_enter Try.func7, Try.ntmps7
  go_wp2_with fail
  refine (a2Long_any v v' n n' w HS1.out HS2.out hn0 hn0').mono ?_
  rw [hl.out]
  rintro e w1 ⟨rfl, rfl⟩
  go_wp2_with fail
  refine (A2Kept_any v n w hn HV.out).mono ?_
  rintro e wA ⟨a, q, rfl, ⟨za, hza, ha⟩, ⟨zq, hzq, hq⟩, hb⟩
  have HB := Lib.hid hb
  obtain rfl : q = qB zq := fbits_q hq (by omega) (by omega)
  have hz4 : zq ≤ 4 := by omega
  have HKD : Hid (KeptD a (qB zq)) := ⟨⟨_, (rv_k100 ha hza).1, (rv_k100 ha hza).2.1, (rv_k100 ha hza).2.2⟩, zq, hz4, rfl⟩
  clear hb ha hq hza hzq
  go_wp2_with fail
  refine (a2At_any v' n' 0 60 _ (by omega) (by omega) (HV'.out.far HB.out)).mono ?_
  rintro e wB ⟨ti, rfl, hti, hb⟩
  have HB := Lib.hid (below_toD HB.out hb)
  clear hb
  obtain ⟨qk, hqk⟩ : ∃ qk, qB zq = qk := ⟨_, rfl⟩
  have HQK := Lib.hid hqk
  rw [hqk] at HKD ⊢
  clear hqk
  have hdn : fgt (decF (fb a) (fb qk) (ti + 1)) (decF (fb a) (fb qk) ti) = false ∧ fgt (decF (fb a) (fb qk) ti) (fb a) = false ∧ flt (decF (fb a) (fb qk) ti) (some 0) = false := by
    obtain ⟨⟨p, hp, p0, p1⟩, z, hz, e⟩ := HKD.out
    obtain ⟨hk, t0, t1⟩ := keep_q hz
    rw [e]
    exact dec_next hp hk p0 (by grind) t0 t1 ti
  have HDN := Lib.hid hdn
  clear hdn
  go_wp2_with fail
  refine (DecayedNumber_any a qk ti _ (keep_ok HKD.out (by omega) (by omega))).mono ?_
  rw [Int.toNat_natCast]
  rintro e w1 ⟨r1, rfl, hr1, hb⟩
  have HB := Lib.hid (below_toD HB.out hb)
  have HR1 := Lib.hid hr1
  clear hb hr1
  go_wp2_with fail
  refine (specDecayedNumber_any a qk ti _ (keep_ok HKD.out (by omega) (by omega))).mono ?_
  rw [Int.toNat_natCast]
  rintro e w2 ⟨r2, rfl, hr2, hb⟩
  have HB := Lib.hid (below_toD HB.out hb)
  have HR2 := Lib.hid hr2
  clear hb hr2
  go_wp2_with fail
  refine (DecayedNumber_any a qk ((ti : Int) + 1) _ (keep_ok HKD.out (by omega) (by omega))).mono ?_
  rw [show ((ti : Int) + 1).toNat = ti + 1 by omega]
  rintro e w3 ⟨r3, rfl, hr3, hb⟩
  have HB := Lib.hid (below_toD HB.out hb)
  have HR3 := Lib.hid hr3
  clear hb hr3
  go_wp2_with fail
  refine (SameNumber_eq r1 r2 _ (HR1.out.out.trans HR2.out.out.symm)).mono ?_
  rintro e w4 ⟨rfl, rfl⟩
  have f1 : fgt (fb r2) (fb a) = false := by rw [HR2.out.out]; exact HDN.out.2.1
  have f2 : flt (fb r2) (fb 0) = false := by rw [HR2.out.out, fb0]; exact HDN.out.2.2
  have f3 : fgt (fb r3) (fb r2) = false := by rw [HR2.out.out, HR3.out.out]; exact HDN.out.1
  have hgt := order_gt
  have hlt := order_lt
  have heq := order_eq
  go_wp2_with fail
  clear f1 f2 f3 HR1 HR2 HR3 HDN
  obtain ⟨gn, gc, hgr, hcase, hz0⟩ := gone_law HKD.out
  have HGR := Lib.hid hgr
  have HCA := Lib.hid hcase
  have HZ0 := Lib.hid hz0
  clear hgr hcase hz0
  refine (GoneAfter_any a qk _ (keep_ok HKD.out (by omega) (by omega))).mono ?_
  rw [HGR.out]
  rintro e w5 ⟨rfl, hb⟩
  have HB := Lib.hid (below_toD HB.out hb)
  clear hb
  go_wp2_with fail
  refine (specGoneAfter_any a qk _ (keep_ok HKD.out (by omega) (by omega))).mono ?_
  rw [HGR.out]
  rintro e w6 ⟨rfl, hb⟩
  have HB := Lib.hid (below_toD HB.out hb)
  clear hb
  have HEH : Hid (fb 1056964608 = some 1056964608) := by show _ = _; decide +kernel
  go_upto_region 12 with fail
  go_cut [149] from 114 to 149 (fun s149 wx => s149 = .bool false ∧ w6 = wx)
  case first =>
    as_aux_lemma =>
    rcases HCA.out with ⟨h1, h2, rfl⟩ | ⟨h1, h2, ⟨h3, rfl⟩ | ⟨h3, rfl⟩⟩
    · rw [← HEH.out] at h1 h2
      have hc : flt (fb qk) (fb 1056964608) = true ∧ feq (fb qk) (fb 1056964608) = false ∨ flt (fb qk) (fb 1056964608) = false ∧ feq (fb qk) (fb 1056964608) = true ∨ flt (fb qk) (fb 1056964608) = true ∧ feq (fb qk) (fb 1056964608) = true := by
        unfold fle at h1
        cases g1 : flt (fb qk) (fb 1056964608) <;> cases g2 : feq (fb qk) (fb 1056964608) <;> rw [g1, g2] at h1 <;> simp at h1 ⊢
      clear h1
      rcases hc with ⟨g1, g2⟩ | ⟨g1, g2⟩ | ⟨g1, g2⟩
      all_goals
        go_wp2_with fail
        go_meet
        case rel => exact ⟨rfl, rfl⟩
    · rw [← HEH.out] at h1 h2
      rw [← fb0] at h3
      have hc : flt (fb qk) (fb 1056964608) = false ∧ feq (fb qk) (fb 1056964608) = false := by
        unfold fle at h1
        cases g1 : flt (fb qk) (fb 1056964608) <;> cases g2 : feq (fb qk) (fb 1056964608) <;> rw [g1, g2] at h1 <;> simp at h1 ⊢
      obtain ⟨g1, g2⟩ := hc
      clear h1
      go_wp2_with fail
      go_meet
      case rel => exact ⟨rfl, rfl⟩
    · rw [← HEH.out] at h1 h2
      rw [← fb0] at h3
      have hc : flt (fb qk) (fb 1056964608) = false ∧ feq (fb qk) (fb 1056964608) = false := by
        unfold fle at h1
        cases g1 : flt (fb qk) (fb 1056964608) <;> cases g2 : feq (fb qk) (fb 1056964608) <;> rw [g1, g2] at h1 <;> simp at h1 ⊢
      obtain ⟨g1, g2⟩ := hc
      clear h1
      go_wp2_with fail
      go_meet
      case rel => exact ⟨rfl, rfl⟩
  case rest =>
  as_aux_lemma =>
  obtain ⟨rfl, rfl⟩ := hcut
  clear HCA HGR HEH
  go_upto_if 151 with fail
  go_cut [] from 152 to 180 (fun wx => Below w.heap.size w wx)
  case first =>
    as_aux_lemma =>
    have hne := order_ne
    by_cases hg0 : gc = 0
    · subst hg0
      obtain ⟨g1, g2, g3⟩ := HZ0.out rfl
      rw [← fb0] at g2
      have HG2 := Lib.hid g2
      have HG3 := Lib.hid g3
      clear g2 g3
      go_wp2_with fail
      refine (DecayedNumber_any a qk gn _ (keep_ok HKD.out (by omega) (by omega))).mono ?_
      rw [Int.toNat_natCast]
      rintro e w7 ⟨r4, rfl, hr4, hb⟩
      have HB := Lib.hid (below_toD HB.out hb)
      have f4 : feq (fb r4) (fb 0) = true := by rw [hr4.out]; exact HG2.out
      clear hb hr4
      by_cases hp : gn = 0
      · subst hp
        go_wp2_with fail
        go_meet
        case rel => exact HB.out
      · obtain ⟨gm, rfl⟩ : ∃ gm, gn = gm + 1 := ⟨gn - 1, by omega⟩
        have p1 : (0 : Int) < ((gm : Int) + 1) := by omega
        have p2 : ((gm : Int) + 1 - 1) = (gm : Int) := by omega
        clear hp
        go_wp2_with fail
        refine (DecayedNumber_any a qk gm _ (keep_ok HKD.out (by omega) (by omega))).mono ?_
        rw [Int.toNat_natCast]
        rintro e w8 ⟨r5, rfl, hr5, hb⟩
        have HB := Lib.hid (below_toD HB.out hb)
        have f5 : feq (fb r5) (fb 0) = false := by rw [hr5.out, fb0]; exact HG3.out gm (by omega)
        clear hb hr5
        go_wp2_with fail
        go_meet
        case rel => exact HB.out
    · have hgb : (gc == 0) = false := by simpa using hg0
      go_wp2_with fail
      go_meet
      case rel => exact HB.out
  case rest =>
  as_aux_lemma =>
  have HB := Lib.hid hcut
  rw [← HQK.out]
  clear hcut HZ0 HKD HQK
  go_wp2_with fail
  refine (A2Brine_any v' n' _ hn' (HV'.out.far HB.out)).mono ?_
  rintro e x1 ⟨x, rfl, hd, hb⟩
  have HB := Lib.hid (below_toD HB.out hb)
  have HD := Lib.hid hd
  have hr := hd.gr.rng
  have HX := Lib.hid hd.gr.fxr
  clear hb hd
  go_wp2_with (with_reducible refine wpList_new newB ?_)
  intro B x2 q1 q2 q3 q4
  have HBn := Lib.hid (below_toD HB.out q4)
  have hwB : w.heap.size ≤ B := by have := HB.out.size; omega
  clear q4
  go_wp2_with ((with_reducible refine wpList_putB (x := x) q3 ?_ ?_ ?_); rfl; rfl)
  intro x3 s3 b3 k3
  have HB := Lib.hid (below_grown HBn.out k3 HBn.out.size hwB)
  clear q3 k3
  go_wp2_with (first | (with_reducible refine wpList_new newB ?_) | ((with_reducible refine wpList_getB b3 ?_ ?_); rfl))
  intro C x4 q1 q2 q3 q4
  have HBn := Lib.hid (below_toD HB.out q4)
  have hwC : w.heap.size ≤ C := by have := HB.out.size; omega
  have hBC : B < C := by have := b3.lt; omega
  have b4 := b3.later q4
  clear q4 b3
  go_wp2_with ((with_reducible refine wpList_putB (x := x) q3 ?_ ?_ ?_); rfl; rfl)
  intro x5 s5 b5 k5
  have HB := Lib.hid (below_grown HBn.out k5 HBn.out.size hwC)
  have HBb := Lib.hid (b4.grown k5 (by omega))
  have HBc := Lib.hid b5
  clear q3 k5 b4 b5
  go_wp2_with fail
  go_loopw [24] (fun v24 wr => DcRel x w B C v24 wr) (fun v24 _ => 64 - (intOf v24).toNat)
  case atStart => exact ⟨0, x.s, by omega, rfl, HD.out, HBc.out, HBb.out, HB.out⟩
  case round =>
    as_aux_lemma =>
    obtain ⟨k, s', hk, rfl, hd2, hc, hbb, hB⟩ := hrel
    have HD2 := Lib.hid hd2
    have HC := Lib.hid hc
    have HBb := Lib.hid hbb
    have HB := Lib.hid hB
    have b1 := BAt.of_blk hbb
    clear hd2 hc hbb hB HBc
    by_cases hlt : k < 64
    · have k1 : (k : Int) < 64 := by omega
      cases hh : hasB x.gr.wide x.gr.high k
      · have HH := Lib.hid hh
        clear hh
        go_wp2_with ((with_reducible refine wpList_getBG b1 ?_ ?_); rfl)
        refine (A2Is_any x.gr k _ hr hlt).mono ?_
        rw [HH.out]
        rintro e w12 ⟨rfl, hb⟩
        have HB := Lib.hid (below_toD HB.out hb)
        have HC := Lib.hid (HC.out.later hb)
        have HBb := Lib.hid (HBb.out.later hb)
        clear hb b1
        go_wp2_with fail
        go_roundw
        case rel => exact ⟨k + 1, s', by omega, by go_num, HD2.out, HC.out, HBb.out, HB.out⟩
        case measure => simp [intOf]; omega
      · have HH := Lib.hid hh
        clear hh
        go_wp2_with ((with_reducible refine wpList_getBG b1 ?_ ?_); rfl)
        refine (A2Is_any x.gr k _ hr hlt).mono ?_
        rw [HH.out]
        rintro e w12 ⟨rfl, hb⟩
        have HB := Lib.hid (below_toD HB.out hb)
        have HC := Lib.hid (HC.out.later hb)
        have HBb := Lib.hid (HBb.out.later hb)
        clear hb b1
        go_wp2_with fail
        refine (a2At_any v n k 40 _ (by omega) (by omega) (HV.out.far HB.out)).mono ?_
        rintro e w13 ⟨z, rfl, hz, hb⟩
        have HB := Lib.hid (below_toD HB.out hb)
        have HC := Lib.hid (HC.out.later hb)
        have HBb := Lib.hid (HBb.out.later hb)
        have hz1 : (z : Int) < 40 := by omega
        clear hb
        go_wp2_with (first | ((with_reducible refine wpList_gate ?_); refine wpList_arith _ _ rfl rfl rfl ?_; intro r nn hr9) | ((with_reducible refine wpList_setS (x := { x with s := s' }) (k := k) (r := r) (HC.out.drewN _) hlt ?_ ?_ ?_); rfl; rfl))
        intro w14 s14 b14 k14
        have HR : r = qB z := fbits_q (hr9.op (Is.ofI _) rfl) (by omega) (by omega)
        have HD3 := Lib.hid (drawn_setS HD2.out hlt HH.out (.inl ⟨z, by omega, HR⟩))
        have HC3 : Hid (Blk w14 C (arrB { x with s := upd s' k r }) 54) := b14
        have HB3 := Lib.hid (below_grown (below_drawn HB.out _) k14 HB.out.size hwC)
        have HBb3 := Lib.hid ((HBb.out.drewN _).grown k14 (by omega))
        clear b14 k14 hr9 HR hz1
        go_wp2_with fail
        go_roundw
        case rel => exact ⟨k + 1, _, by omega, by go_num, HD3.out, HC3.out, HBb3.out, HB3.out⟩
        case measure => simp [intOf]; omega
    · have k1 : ¬ (k : Int) < 64 := by omega
      have HTW : Hid (TwoB x s') := ⟨HD.out, HD2.out⟩
      obtain ⟨y, hy⟩ : ∃ y : Br, y = { x with s := s' } := ⟨_, rfl⟩
      have hry : y.gr.Rng := by rw [hy]; exact hr
      have hxy : y.gr.Fx := by rw [hy]; exact HX.out
      have HXY := Lib.hid hxy
      have HML : Hid (mixR x.n y.n (fb (qB zq)) = (mixN x.n y.n (fb (qB zq)), 0)) := by show _ = _; rw [hy]; exact mix_law HTW.out hz4
      have HDL : Hid (decR x.n (fb (qB zq)) (ti : Int) = (decN x.n (fb (qB zq)) ti, 0)) := by
        show _ = _
        unfold decR
        rw [if_pos HD.out.ok, if_pos (keep_ok ⟨⟨0, by rw [fb0]; exact rv_zero, by grind, by grind⟩, zq, hz4, rfl⟩ (by omega) (by omega)), Int.toNat_natCast]
      have HY := Lib.hid hy
      rw [← hy] at HC
      clear hy hxy
      have ld0 := HBb.out
      have ld1 := HC.out
      go_wp2_with (first | ((with_reducible refine wpList_getB ld0 ?_ ?_); rfl) | ((with_reducible refine wpList_getB ld1 ?_ ?_); rfl))
      refine (MixBrines_any x y (qB zq) _ hr HX.out hry HXY.out).mono ?_
      rw [HML.out]
      rintro e ya ⟨m1, rfl, hy, hb⟩
      have HB := Lib.hid (below_toD HB.out hb)
      have HBb := Lib.hid (HBb.out.later hb)
      have HC := Lib.hid (HC.out.later hb)
      have HYHM := Lib.hid hy
      clear hb hy ld0 ld1
      go_wp2_with (with_reducible refine wpList_new newB ?_)
      intro B25 yb q1 q2 q3 q4
      have HBn := Lib.hid (below_toD HB.out q4)
      have hwB25 : w.heap.size ≤ B25 := by have := HB.out.size; omega
      have hneHBb : B < B25 := by have := HBb.out.lt; omega
      have hneHC : C < B25 := by have := HC.out.lt; omega
      have HBb := Lib.hid (HBb.out.later q4)
      have HC := Lib.hid (HC.out.later q4)
      clear q4
      go_wp2_with ((with_reducible refine wpList_putB (x := m1) q3 ?_ ?_ ?_); rfl; rfl)
      intro yc sc bc kc
      have HB := Lib.hid (below_grown HBn.out kc HBn.out.size hwB25)
      have HBb := Lib.hid (HBb.out.grown kc (by omega))
      have HC := Lib.hid (HC.out.grown kc (by omega))
      have HM := Lib.hid bc
      clear q3 bc kc sc hneHBb hneHC
      have ld0 := HBb.out
      have ld1 := HC.out
      go_wp2_with (first | ((with_reducible refine wpList_getB ld0 ?_ ?_); rfl) | ((with_reducible refine wpList_getB ld1 ?_ ?_); rfl))
      refine (specMixBrines_any x y (qB zq) _ hr HX.out hry HXY.out).mono ?_
      rw [HML.out]
      rintro e ya ⟨m2, rfl, hy, hb⟩
      have HB := Lib.hid (below_toD HB.out hb)
      have HBb := Lib.hid (HBb.out.later hb)
      have HC := Lib.hid (HC.out.later hb)
      have HM := Lib.hid (HM.out.later hb)
      have HYHS := Lib.hid hy
      clear hb hy ld0 ld1
      go_wp2_with (with_reducible refine wpList_new newB ?_)
      intro B27 yb q1 q2 q3 q4
      have HBn := Lib.hid (below_toD HB.out q4)
      have hwB27 : w.heap.size ≤ B27 := by have := HB.out.size; omega
      have hneHBb : B < B27 := by have := HBb.out.lt; omega
      have hneHC : C < B27 := by have := HC.out.lt; omega
      have hneHM : B25 < B27 := by have := HM.out.lt; omega
      have HBb := Lib.hid (HBb.out.later q4)
      have HC := Lib.hid (HC.out.later q4)
      have HM := Lib.hid (HM.out.later q4)
      clear q4
      go_wp2_with ((with_reducible refine wpList_putB (x := m2) q3 ?_ ?_ ?_); rfl; rfl)
      intro yc sc bc kc
      have HB := Lib.hid (below_grown HBn.out kc HBn.out.size hwB27)
      have HBb := Lib.hid (HBb.out.grown kc (by omega))
      have HC := Lib.hid (HC.out.grown kc (by omega))
      have HM := Lib.hid (HM.out.grown kc (by omega))
      have HS := Lib.hid bc
      clear q3 bc kc sc hneHBb hneHC hneHM
      have ld0 := HBb.out
      go_wp2_with (first | ((with_reducible refine wpList_getB ld0 ?_ ?_); rfl))
      refine (DecaySalt_any x (qB zq) ti _ hr HX.out).mono ?_
      rw [HDL.out]
      rintro e ya ⟨m3, rfl, hy, hb⟩
      have HB := Lib.hid (below_toD HB.out hb)
      have HBb := Lib.hid (HBb.out.later hb)
      have HC := Lib.hid (HC.out.later hb)
      have HM := Lib.hid (HM.out.later hb)
      have HS := Lib.hid (HS.out.later hb)
      have HYHL := Lib.hid hy
      clear hb hy ld0
      go_wp2_with (with_reducible refine wpList_new newB ?_)
      intro B29 yb q1 q2 q3 q4
      have HBn := Lib.hid (below_toD HB.out q4)
      have hwB29 : w.heap.size ≤ B29 := by have := HB.out.size; omega
      have hneHBb : B < B29 := by have := HBb.out.lt; omega
      have hneHC : C < B29 := by have := HC.out.lt; omega
      have hneHM : B25 < B29 := by have := HM.out.lt; omega
      have hneHS : B27 < B29 := by have := HS.out.lt; omega
      have HBb := Lib.hid (HBb.out.later q4)
      have HC := Lib.hid (HC.out.later q4)
      have HM := Lib.hid (HM.out.later q4)
      have HS := Lib.hid (HS.out.later q4)
      clear q4
      go_wp2_with ((with_reducible refine wpList_putB (x := m3) q3 ?_ ?_ ?_); rfl; rfl)
      intro yc sc bc kc
      have HB := Lib.hid (below_grown HBn.out kc HBn.out.size hwB29)
      have HBb := Lib.hid (HBb.out.grown kc (by omega))
      have HC := Lib.hid (HC.out.grown kc (by omega))
      have HM := Lib.hid (HM.out.grown kc (by omega))
      have HS := Lib.hid (HS.out.grown kc (by omega))
      have HL := Lib.hid bc
      clear q3 bc kc sc hneHBb hneHC hneHM hneHS
      have l1 := HM.out
      have l2 := HS.out
      go_wp2_with (first | ((with_reducible refine wpList_getBgd ?_ l1 ?_ ?_); (exact rfl); rfl) | ((with_reducible refine wpList_getBgd ?_ l2 ?_ ?_); (exact rfl); rfl))
      refine (SameBrine_eq m1 m2 _ (HYHM.out.trans HYHS.out.symm)).mono ?_
      rintro e yd ⟨rfl, hb⟩
      have HB := Lib.hid (below_toD HB.out hb)
      have HBb := Lib.hid (HBb.out.later hb)
      have HC := Lib.hid (HC.out.later hb)
      have HM := Lib.hid (HM.out.later hb)
      have HS := Lib.hid (HS.out.later hb)
      have HL := Lib.hid (HL.out.later hb)
      clear hb l1 l2
      go_wp2_with fail
      have HBL := HB
      have HBbL := HBb
      have HSL := HS
      have HLL := HL
      have HCL := HC
      clear HB HBb HS HL HC HM HYHM
      go_loopw [31] (fun v31 wr => CtD w yd v31 wr) (fun v31 _ => 64 - (intOf v31).toNat)
      case atStart => exact ⟨0, by omega, rfl, HBL.out, Below.refl _ _⟩
      case round =>
        as_aux_lemma =>
        obtain ⟨i, hi, rfl, hB, hB2⟩ := hrel
        have HB := Lib.hid hB
        have HB2 := Lib.hid hB2
        have HBb := Lib.hid (HBbL.out.below hB2 HBbL.out.lt)
        have HS := Lib.hid (HSL.out.below hB2 HSL.out.lt)
        have HL := Lib.hid (HLL.out.below hB2 HLL.out.lt)
        have HC := Lib.hid (HCL.out.below hB2 HCL.out.lt)
        clear hB
        by_cases hil : i < 64
        · have i1 : (i : Int) < 64 := by omega
          have l1 := (BAt.of_blk HBb.out).s (k := i) hil
          clear hB2
          go_wp2_with fail
          refine (specDecayedNumber_any (x.s i) (qB zq) ti _ (salt_keep HD.out hz4 hil (by omega) (by omega))).mono ?_
          rw [Int.toNat_natCast]
          rintro e z1 ⟨ro, rfl, hro, hb⟩
          have HB := Lib.hid (below_toD HB.out hb)
          have HB2 := Lib.hid (below_toD HB2.out hb)
          have HBb := Lib.hid (HBb.out.later hb)
          have HS := Lib.hid (HS.out.later hb)
          have HL := Lib.hid (HL.out.later hb)
          have HC := Lib.hid (HC.out.later hb)
          have HRO : Hid (fb (m3.s i) = fb ro) := by show _ = _; rw [hro.out]; exact dec_law HD.out hz4 HYHL.out hil
          clear hb hro l1
          have l1 := (BAt.of_blk HBb.out).s (k := i) hil
          have l2 := (BAt.of_blk HS.out).s (k := i) hil
          have l3 := (BAt.of_blk HL.out).s (k := i) hil
          have l4 := (BAt.of_blk HC.out).s (k := i) hil
          have q1 := fun u => ext_cell z1 u l1
          have q2 := fun u => ext_cell z1 u l2
          have q3 := fun u => ext_cell z1 u l3
          have q4 := fun u => ext_cell z1 u l4
          have hmn : ∃ q, fb (x.s i) = some q ∧ q < 2147483648 ∧ fb (y.s i) ≠ none ∧ (∀ r, Is r (fsub (fb (if flt (fb (x.s i)) (fb (y.s i)) then x.s i else y.s i)) (fb 981668463)) → flt (fb (m2.s i)) (fb r) = false) ∧ (∀ r, Is r (fadd (fb (if fgt (fb (y.s i)) (fb (x.s i)) then y.s i else x.s i)) (fb 981668463)) → fgt (fb (m2.s i)) (fb r) = false) := by
            have hs : y.s = s' := by rw [HY.out]
            rw [hs]
            exact mix_near HTW.out hz4 (by rw [← HY.out]; exact HYHS.out) hil
          obtain ⟨qx, e1, e2, e3, hlo, hhi⟩ := hmn
          have hmin := fun ts t w => run_min_num (P := Try.prog) e1 e2 e3 ts t w
          have hmax := fun ts t w => run_max_num (P := Try.prog) e1 e2 e3 ts t w
          generalize (if flt (fb (x.s i)) (fb (y.s i)) then x.s i else y.s i) = mn at hmin hlo
          generalize (if fgt (fb (y.s i)) (fb (x.s i)) then y.s i else x.s i) = mx at hmax hhi
          have HLO := Lib.hid hlo
          have HHI := Lib.hid hhi
          have hlt := order_lt
          have hgt := order_gt
          clear hlo hhi e1 e2 e3 l1 l2 l3 l4
          go_wp2_with fail
          refine wp_soft (SV (.bool true)) (by kernel_rfl) (by kernel_rfl) ?_
          repeat (first | ((first | refine soft_arith (fun _ n h => h.drewN n) _ _ rfl rfl rfl ?_ | refine soft_arithG rfl (fun _ n h => h.drewN n) _ _ rfl rfl rfl ?_); intro rS hS; (first | have hz1 := HLO.out rS hS | have hz2 := HHI.out rS hS)) | (refine soft_step (fun K hK => ?_); go_simp; (try go_bits); refine hK _ ?_; clear hK K) | (refine soft_step (fun K hK => ?_); go_simp; refine ⟨_, _, ⟨rfl, rfl⟩, fun z => (SameNumber_eq _ _ _ HRO.out).mono ?_, ?_⟩; (rintro e w1 ⟨he, rfl⟩; exact ⟨_, he, rfl, Below.refl _ _⟩); rintro v rfl; refine hK _ ?_; clear hK K))
          refine soft_nil ?_
          rintro z2 hw
          have hb := hw.below
          have HB := Lib.hid (below_toD HB.out hb)
          have HB2 := Lib.hid (below_toD HB2.out hb)
          clear hb hw
          go_wp2_with fail
          go_roundw
          case rel => exact ⟨i + 1, by omega, by go_num, HB.out, HB2.out⟩
          case measure => simp [intOf]; omega
        · have i1 : ¬ (i : Int) < 64 := by omega
          have HRO := Lib.hid (rev_ok HD.out.rev)
          have HRV := Lib.hid (revR_ok HD.out.rev)
          have HRV2 := Lib.hid (revR_ok HRO.out)
          clear hB2 HS HL HC
          have ld0 := HBb.out
          go_wp2_with (first | ((with_reducible refine wpList_getB ld0 ?_ ?_); rfl))
          refine (ReverseBrine_any x _ hr HX.out).mono ?_
          rw [HRV.out]
          rintro e ya ⟨m4, rfl, hy, hb⟩
          have HB := Lib.hid (below_toD HB.out hb)
          have HBb := Lib.hid (HBb.out.later hb)
          have HYHK := Lib.hid hy
          clear hb hy ld0
          go_wp2_with (with_reducible refine wpList_new newB ?_)
          intro B34 yb q1 q2 q3 q4
          have HBn := Lib.hid (below_toD HB.out q4)
          have hwB34 : w.heap.size ≤ B34 := by have := HB.out.size; omega
          have hneHBb : B < B34 := by have := HBb.out.lt; omega
          have HBb := Lib.hid (HBb.out.later q4)
          clear q4
          go_wp2_with ((with_reducible refine wpList_putB (x := m4) q3 ?_ ?_ ?_); rfl; rfl)
          intro yc sc bc kc
          have HB := Lib.hid (below_grown HBn.out kc HBn.out.size hwB34)
          have HBb := Lib.hid (HBb.out.grown kc (by omega))
          have HK := Lib.hid bc
          clear q3 bc kc sc hneHBb
          have hm : m4.gr.m = (revN x.n).g := congrArg N.g HYHK.out
          have hr4 : m4.gr.Rng := rng_of (by rw [hm]; exact sized_of HRO.out.sn.ok)
          have HX4 : Hid m4.gr.Fx := by
            have e : m4.gr.fixed = x.gr.fixed := congrArg M.fixed hm
            show 0 ≤ m4.gr.fixed ∧ _
            rw [e]; exact HX.out
          have HRV3 : Hid (revR m4.n = (revN m4.n, 0)) := by show _ = _; rw [HYHK.out]; exact HRV2.out
          clear hm
          have ld0 := HK.out
          go_wp2_with (first | ((with_reducible refine wpList_getB ld0 ?_ ?_); rfl))
          refine (ReverseBrine_any m4 _ hr4 HX4.out).mono ?_
          rw [HRV3.out]
          rintro e ya ⟨m5, rfl, hy, hb⟩
          have HB := Lib.hid (below_toD HB.out hb)
          have HBb := Lib.hid (HBb.out.later hb)
          have HK := Lib.hid (HK.out.later hb)
          have HYHH := Lib.hid hy
          clear hb hy ld0
          go_wp2_with (with_reducible refine wpList_new newB ?_)
          intro B36 yb q1 q2 q3 q4
          have HBn := Lib.hid (below_toD HB.out q4)
          have hwB36 : w.heap.size ≤ B36 := by have := HB.out.size; omega
          have hneHBb : B < B36 := by have := HBb.out.lt; omega
          have hneHK : B34 < B36 := by have := HK.out.lt; omega
          have HBb := Lib.hid (HBb.out.later q4)
          have HK := Lib.hid (HK.out.later q4)
          clear q4
          go_wp2_with ((with_reducible refine wpList_putB (x := m5) q3 ?_ ?_ ?_); rfl; rfl)
          intro yc sc bc kc
          have HB := Lib.hid (below_grown HBn.out kc HBn.out.size hwB36)
          have HBb := Lib.hid (HBb.out.grown kc (by omega))
          have HK := Lib.hid (HK.out.grown kc (by omega))
          have HH := Lib.hid bc
          clear q3 bc kc sc hneHBb hneHK
          have HTT : Hid (∀ k, k < 64 → feq (fb (m5.gr.h k)) (fb (x.gr.h k)) = true ∧ feq (fb (m5.gr.g k)) (fb (x.gr.g k)) = true) := fun k hk => rev_twice HD.out HYHK.out HYHH.out hk
          have HBL := HB
          have HBbL := HBb
          have HHL := HH
          clear HB HBb HK HH
          go_wp2_with fail
          go_loopw [38] (fun v38 wr => CtD w yc v38 wr) (fun v38 _ => 64 - (intOf v38).toNat)
          case atStart => exact ⟨0, by omega, rfl, HBL.out, Below.refl _ _⟩
          case round =>
            as_aux_lemma =>
            obtain ⟨j, hj, rfl, hB, hB2⟩ := hrel
            have HB := Lib.hid hB
            have HB2 := Lib.hid hB2
            have HBb := Lib.hid (HBbL.out.below hB2 HBbL.out.lt)
            have HH := Lib.hid (HHL.out.below hB2 HHL.out.lt)
            clear hB hB2
            by_cases hjl : j < 64
            · have j1 : (j : Int) < 64 := by omega
              have l1 := (BAt.of_blk HBb.out).g.h (k := j) hjl
              have l2 := (BAt.of_blk HBb.out).g.g (k := j) hjl
              have l3 := (BAt.of_blk HH.out).g.h (k := j) hjl
              have l4 := (BAt.of_blk HH.out).g.g (k := j) hjl
              simp only [Nat.zero_add] at l1 l2 l3 l4
              have q1 := fun u => ext_cell wr u l1
              have q2 := fun u => ext_cell wr u l2
              have q3 := fun u => ext_cell wr u l3
              have q4 := fun u => ext_cell wr u l4
              obtain ⟨e1, e2⟩ := HTT.out j hjl
              have hne := order_ne
              clear l1 l2 l3 l4
              go_wp2_with fail
              refine wp_soft (SV (.bool true)) (by kernel_rfl) (by kernel_rfl) ?_
              repeat (refine soft_step (fun K hK => ?_); go_simp; (try go_bits); refine hK _ ?_; clear hK K)
              refine soft_nil ?_
              rintro z2 hw
              have hb := hw.below
              have HB := Lib.hid (below_toD HB.out hb)
              have HB2 := Lib.hid (below_toD HB2.out hb)
              clear hb hw
              go_wp2_with fail
              go_roundw
              case rel => exact ⟨j + 1, by omega, by go_num, HB.out, HB2.out⟩
              case measure => simp [intOf]; omega
            · have j1 : ¬ (j : Int) < 64 := by omega
              go_wp2_with fail
              go_ret
              exact ⟨rfl, HB.out⟩
end Go.Proofs.Ytfcphfdfpjmgiaa
