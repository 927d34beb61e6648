/- The law on settled grounds: its walk. -/
import Derived.Test.YtfcphfdfpjmgiaaSetS
import Derived.Test.YtfcphfdfpjmgiaaA2S
import Derived.Test.YtfcphfdfpjmgiaaInOrd
import Derived.Test.YtfcphfdfpjmgiaaEqG
import Derived.Deep.CutRange
namespace Go.Proofs.Ytfcphfdfpjmgiaa
open Go.RowKit

theorem below_toS {w wr w' : World} (h : Below w.heap.size w wr) (h2 : Below wr.heap.size wr w') : Below w.heap.size w w' := h.trans (h2.mono h.size)
theorem quart_lt {a b : Int} : quart a < quart b ↔ a < b := by
  unfold quart
  rw [← Rat.intCast_lt_intCast]
  constructor <;> intro h <;> grind
theorem rvb {g : G} (N : Nums g.m) {k : Nat} (hk : IsCell g.m k) : RV (fb (g.h k)) (quart (N.h k)) := by
  have := N.rvh hk
  rwa [show g.m.h k = fb (g.h k) from fm_of hk.1] at this
theorem flt_hh {g : G} (N : Nums g.m) {a n : Nat} (ha : IsCell g.m a) (hn : IsCell g.m n) : flt (fb (g.h n)) (fb (g.h a)) = decide (N.h n < N.h a) := by
  rw [(rvb N hn).lt (rvb N ha)]
  exact decide_eq_decide.2 quart_lt
theorem fgt_hh {g : G} (N : Nums g.m) {a n : Nat} (ha : IsCell g.m a) (hn : IsCell g.m n) : fgt (fb (g.h n)) (fb (g.h a)) = decide (N.h a < N.h n) := by
  rw [(rvb N hn).gt (rvb N ha)]
  exact decide_eq_decide.2 quart_lt
theorem feq_gain {g : G} (N : Nums g.m) {k : Nat} (hk : IsCell g.m k) : feq (fb (g.g k)) (fb 0) = decide (N.g k = 0) := by
  have h := N.rvg hk
  rw [show g.m.g k = fb (g.g k) from fm_of hk.1] at h
  rw [fb0, h.eq rv_zero]
  refine decide_eq_decide.2 ?_
  unfold quart
  constructor
  · intro h
    have h2 : ((N.g k : Int) : Rat) = ((0 : Int) : Rat) := by have : ((0 : Int) : Rat) = 0 := rfl; grind
    exact Rat.intCast_inj.1 h2
  · intro h; rw [h]; decide +kernel
theorem fgt_joint {g : G} (N : Nums g.m) {k n : Nat} (hk : IsCell g.m k) (hn : IsCell g.m n) : fgt (joint (fb (g.c k)) (fb (g.c n))) (some 0) = decide (jQ (N.c k) (N.c n) ≠ 0) := by
  have h := N.rvj hk hn
  rw [show g.m.c k = fb (g.c k) from fm_of hk.1, show g.m.c n = fb (g.c n) from fm_of hn.1] at h
  rw [h.gt rv_zero]
  have := jQ_nonneg (N.cr k) (N.cr n)
  refine decide_eq_decide.2 ⟨fun h => by grind, fun h => by grind⟩
/-- What is a little less, and a little more. -/
theorem rv_milli : ∃ c, RV (some 981668463) c ∧ 999 / 1000000 ≤ c ∧ c ≤ 1001 / 1000000 := by
  refine ⟨(8589935 : Rat) / 8589934592, RV.of (v := 8589935 * (2 ^ 116 : Nat)) (by decide +kernel) (by decide +kernel), by decide +kernel, by decide +kernel⟩
theorem low_ok {x y : F} {q p : Rat} (hx : RV x q) (hy : RV y p) (h : p - 1 / 2000 ≤ q) (hp : p ≤ 18) (hp2 : 2 ≤ p) : ∃ r, fsub y (some 981668463) = some r ∧ flt x (some r) = false := by
  obtain ⟨c, hc, c1, c2⟩ := rv_milli
  obtain ⟨s, h1, hn, _, _⟩ := hy.sub hc (by grind) (by grind)
  obtain ⟨n1, n2⟩ := hn 18 (by grind) (by grind)
  have hu := uQ_big
  have h3 := h1
  obtain ⟨v, ⟨b, _, _, _, hb, _⟩, _⟩ := h1
  refine ⟨b, hb, ?_⟩
  rw [hb] at h3
  rw [hx.lt h3]
  exact decide_eq_false (by grind)
theorem high_ok {x y : F} {q p : Rat} (hx : RV x q) (hy : RV y p) (h : q ≤ p + 1 / 2000) (hp : p ≤ 18) (hp2 : 2 ≤ p) : ∃ r, fadd y (some 981668463) = some r ∧ fgt x (some r) = false := by
  obtain ⟨c, hc, c1, c2⟩ := rv_milli
  obtain ⟨s, h1, hn, _, _⟩ := hy.add hc (by grind) (by grind)
  obtain ⟨n1, n2⟩ := hn 19 (by grind) (by grind)
  have hu := uQ_big
  have h3 := h1
  obtain ⟨v, ⟨b, _, _, _, hb, _⟩, _⟩ := h1
  refine ⟨b, hb, ?_⟩
  rw [hb] at h3
  rw [hx.gt h3]
  exact decide_eq_false (by grind)
theorem quart_hi {m : M} (N : Nums m) (k : Nat) : quart (N.h k) ≤ 18 := by
  have e : quart 72 = 18 := by decide +kernel
  rw [← e]; exact quart_le (N.hr k).2
theorem quart_lo {m : M} (N : Nums m) (k : Nat) : 2 ≤ quart (N.h k) := by
  have e : quart 8 = 2 := by decide +kernel
  rw [← e]; exact quart_le (N.hr k).1
theorem feq_num {r b : Nat} (h : fb r = some b) : feq (fb r) (fb r) = true := by
  have hb : b = r := by
    unfold fb fbOf at h
    split at h
    · cases h
    · cases h; rfl
  subst hb
  have hn : (Ieee.single.read b).isNaN = false := by
    cases e : (Ieee.single.read b).isNaN with
    | false => rfl
    | true => unfold fb fbOf at h; rw [e] at h; cases h
  rw [h]
  show (Ieee.single.order b b == some .eq) = true
  unfold Ieee.Format.order
  rw [order_self hn]; rfl
theorem fb_of_some {x : F} {b : Nat} (h : x = some b) (hs : ∃ r, Is r x) : fb b = some b := by
  obtain ⟨r, hr⟩ := hs
  have h1 : fb r = some b := hr.out.trans h
  rcases fbOf_cases Ieee.single r with ⟨e, _⟩ | ⟨e, _⟩
  · have : fb r = none := e
    rw [h1] at this; cases this
  · have : fb r = some r := e
    rw [h1] at this; cases this; exact h1
section
variable {ops : Array Oper} {Q : Exit → Act → World → Prop} {rest : List Oper} {a : Act} {w : World} {dst : Option Tmp} {ty : TypeId} {X : Operand} {pos : String} {after : Array Edge} {B : Nat} {t : TypeId} {gd : Option (Nat × Bool)}
theorem wpList_getGon {x : G} (hgd : Region.wanted ⟨dst, .load 30 X, ty, pos, after, gd⟩ (yielded ops a.tmps) = true) (hg : Blk w B (arrG x) t) (hx : a.eval X = .pointer (some ⟨B, 0, none⟩))
    (h : wpList Try.prog ops Q rest (a.put dst (.agg (arrG x))) w) : wpList Try.prog ops Q (⟨dst, .load 30 X, ty, pos, after, gd⟩ :: rest) a w := by
  refine wpList_step fun K hK => ?_
  rw [if_pos hgd]
  unfold Oper.wp
  have hl := loadG hg
  have : (execOp a.eval ⟨dst, .load 30 X, ty, pos, after, gd⟩).run Try.prog w = .ok (.value (.agg (arrG x))) w := by
    simp only [execOp, hx, Instr.loadAt, Instr.sureAddr]
    simp [hl]
  rw [this]
  exact hK _ _ h
end

def StlRel (m m1 : M) (w wL : World) (v18 v19 : Value) (wr : World) : Prop := ∃ i : Nat, i ≤ 64 ∧ v19 = .int .i64 i ∧ (∃ y, v18 = .bool y ∧ y = anyTo m m1 i) ∧ Below w.heap.size w wr ∧ Below wL.heap.size wL wr
/-- The least and the greatest head so far. -/
def SideRel (g : G) (N : Nums g.m) (i : Nat) (w wL : World) (v23 v24 v25 v26 : Value) (wr : World) : Prop :=
  ∃ (s a b : Nat) (f : Bool), s ≤ 4 ∧ v26 = .int .i64 s ∧ v23 = .float .f32 (g.h a) ∧ v24 = .float .f32 (g.h b) ∧ v25 = .bool f ∧ SideOk g.m N i s a b f ∧ Below w.heap.size w wr ∧ Below wL.heap.size wL wr
/-- The word of a callee that takes one number: its size. -/
def SF1 (_ : FuncId) (args : Array Value) (v : Value) : Prop := ∃ a r, args = #[.float .f32 a] ∧ v = .float .f32 r ∧ Is r (fabs (fb a))
set_option maxRecDepth 1000000 in
set_option maxHeartbeats 32000000 in
theorem law_Settled (v v' : Value) (n n' : Nat) (w : World) (hn0 : n < 9223372036854775808) (hn0' : n' < 9223372036854775808) (hv : BytesAt w v n) (hv' : BytesAt w v' n') :
    Calls Try.prog 8 #[v, v'] w (RetB true w) := by
  have s1 : ∃ a cap, v = .slice a n cap := by obtain ⟨a, cap, e, _⟩ := hv; exact ⟨a, cap, e⟩
  have s2 : ∃ a cap, v' = .slice a n' cap := by obtain ⟨a, cap, e, _⟩ := hv'; exact ⟨a, cap, e⟩
  have HV := Lib.hid hv
  have HS1 := Lib.hid s1
  have HS2 := Lib.hid s2
  clear hv hv' s1 s2
  by_cases hlong : 3000 < n ∨ 3000 < n'
  · have hl : Hid ((decide (3000 < n) || decide (3000 < n')) = true) := by
      show _ = true
      rcases hlong with h | h
      · rw [decide_eq_true h]; rfl
      · rw [decide_eq_true h, Bool.or_true]
    clear hlong
    go_enter Try.func8, Try.ntmps8
    go_wp2_with fail
    refine (a2Long_any v v' n n' w HS1.out HS2.out hn0 hn0').mono ?_
    rw [hl.out]
    rintro e w1 ⟨rfl, rfl⟩
    go_wp2_with fail
    go_ret
    exact ⟨rfl, Below.refl _ _⟩
  have hl : Hid ((decide (3000 < n) || decide (3000 < n')) = false) := by
    show _ = false
    rw [decide_eq_false (by omega), decide_eq_false (by omega)]; rfl
  have hn : n ≤ 4096 := by omega
  clear hlong
  go_enter Try.func8, Try.ntmps8
  go_wp2_with fail
  refine (a2Long_any v v' n n' w HS1.out HS2.out hn0 hn0').mono ?_
  rw [hl.out]
  rintro e w1 ⟨rfl, rfl⟩
  go_wp2_with fail
  refine (A2Ground_any v n w hn HV.out).mono ?_
  rintro e wA ⟨g, rfl, hd, hb1⟩
  have HB := Lib.hid hb1
  have HD := Lib.hid hd
  have hr := hd.rng
  have HX := Lib.hid hd.fxr
  have HO := Lib.hid hd.ok
  have HK := Lib.hid hd.setk
  obtain ⟨N⟩ := hd.nums
  have HST := Lib.hid (hd.setk.step N)
  have HOR := Lib.hid (hd.setk.ord N)
  have HC0 := Lib.hid (hd.setk.col N.cg (H := 18) (by decide) (by decide +kernel) N.hb (z := 0) ⟨by omega, by omega⟩)
  have HTW := Lib.hid (hd.setk.two N)
  have HRL := Lib.hid (hd.setk.rlx0 N)
  have HNU := Lib.hid (hd.setk.nums N)
  clear hb1 hd
  obtain ⟨m1, hm1⟩ : ∃ m1, once g.m (cellsM g.m) = m1 := ⟨_, rfl⟩
  rw [hm1] at HST
  obtain ⟨mh, hmh⟩ : ∃ mh, colM g.m 0 = mh := ⟨_, rfl⟩
  rw [hmh] at HC0 HTW HNU
  obtain ⟨mb, hmb⟩ : ∃ mb, colM mh 1 = mb := ⟨_, rfl⟩
  rw [hmb] at HTW HNU
  have HM1 := Lib.hid hm1
  have HMH := Lib.hid hmh
  have HMB := Lib.hid hmb
  clear hm1 hmh hmb
  go_wp2_with (first | (with_reducible refine wpList_new newF ?_) | (with_reducible refine wpList_zero (zeroF _) ?_) | (with_reducible refine wpList_new newG ?_) | (with_reducible refine wpList_zero (zeroG _) ?_))
  intro B wB hB1 hB2 hB3 hB4
  have HBn := Lib.hid (below_toS HB.out hB4)
  have hwB : w.heap.size ≤ B := by have := HB.out.size; omega
  clear hB4
  go_wp2_with ((with_reducible refine wpList_putG (g := g) hB3 ?_ ?_ ?_); rfl; rfl)
  intro wC sC bC kC
  have HB := Lib.hid (below_grown HBn.out kC HBn.out.size hwB)
  have HG := Lib.hid bC
  clear hB3 kC bC
  have ld := HG.out
  go_wp2_with ((with_reducible refine wpList_getG ld ?_ ?_); rfl)
  refine (StepAtOnce_any g _ hr HX.out).mono ?_
  rw [HST.out.1, HST.out.2.1, HST.out.2.2]
  rintro e wa1 ⟨g1, r1, rfl, hm, hrr, hb⟩
  have HB := Lib.hid (below_toS HB.out hb)
  have HG := Lib.hid (HG.out.later hb)
  have HM1x := Lib.hid hm
  have HR1 := Lib.hid hrr
  clear ld hm hrr hb
  go_wp2_with (first | (with_reducible refine wpList_new newF ?_) | (with_reducible refine wpList_zero (zeroF _) ?_) | (with_reducible refine wpList_new newG ?_) | (with_reducible refine wpList_zero (zeroG _) ?_))
  intro B6 wb1 q1 q2 q3 q4
  have HBn := Lib.hid (below_toS HB.out q4)
  have hwB6 : w.heap.size ≤ B6 := by have := HB.out.size; omega
  have hneB6B : B < B6 := by have := HG.out.lt; omega
  have HG := Lib.hid (HG.out.later q4)
  clear q4
  go_wp2_with ((with_reducible refine wpList_putG (g := g1) q3 ?_ ?_ ?_); rfl; rfl)
  intro wc1 sc bc kc
  have HB := Lib.hid (below_grown HBn.out kc HBn.out.size hwB6)
  have HG := Lib.hid (HG.out.grown kc (by omega))
  have HG1 := Lib.hid bc
  clear q3 bc kc sc hneB6B
  have ld := HG.out
  go_wp2_with ((with_reducible refine wpList_getG ld ?_ ?_); rfl)
  refine (specStepAtOnce_any g _ hr HX.out).mono ?_
  rw [HST.out.1, HST.out.2.1, HST.out.2.2]
  rintro e wa2 ⟨g2, r2, rfl, hm, hrr, hb⟩
  have HB := Lib.hid (below_toS HB.out hb)
  have HG := Lib.hid (HG.out.later hb)
  have HG1 := Lib.hid (HG1.out.later hb)
  have HM2 := Lib.hid hm
  have HR2 := Lib.hid hrr
  clear ld hm hrr hb
  go_wp2_with (first | (with_reducible refine wpList_new newF ?_) | (with_reducible refine wpList_zero (zeroF _) ?_) | (with_reducible refine wpList_new newG ?_) | (with_reducible refine wpList_zero (zeroG _) ?_))
  intro B9 wb2 q1 q2 q3 q4
  have HBn := Lib.hid (below_toS HB.out q4)
  have hwB9 : w.heap.size ≤ B9 := by have := HB.out.size; omega
  have hneB9B : B < B9 := by have := HG.out.lt; omega
  have hneB9B6 : B6 < B9 := by have := HG1.out.lt; omega
  have HG := Lib.hid (HG.out.later q4)
  have HG1 := Lib.hid (HG1.out.later q4)
  clear q4
  go_wp2_with ((with_reducible refine wpList_putG (g := g2) q3 ?_ ?_ ?_); rfl; rfl)
  intro wc2 sc bc kc
  have HB := Lib.hid (below_grown HBn.out kc HBn.out.size hwB9)
  have HG := Lib.hid (HG.out.grown kc (by omega))
  have HG1 := Lib.hid (HG1.out.grown kc (by omega))
  have HG2 := Lib.hid bc
  clear q3 bc kc sc hneB9B hneB9B6
  have ld := HG.out
  go_wp2_with ((with_reducible refine wpList_getG ld ?_ ?_); rfl)
  refine (SweepInOrder_any g _ hr HX.out).mono ?_
  rw [HOR.out.1, HOR.out.2]
  rintro e wa3 ⟨g3, r3, rfl, hm, hrr, hb⟩
  have HB := Lib.hid (below_toS HB.out hb)
  have HG := Lib.hid (HG.out.later hb)
  have HG1 := Lib.hid (HG1.out.later hb)
  have HG2 := Lib.hid (HG2.out.later hb)
  have HM3 := Lib.hid hm
  have HR3 := Lib.hid hrr
  clear ld hm hrr hb
  go_wp2_with (first | (with_reducible refine wpList_new newF ?_) | (with_reducible refine wpList_zero (zeroF _) ?_) | (with_reducible refine wpList_new newG ?_) | (with_reducible refine wpList_zero (zeroG _) ?_))
  intro B12 wb3 q1 q2 q3 q4
  have HBn := Lib.hid (below_toS HB.out q4)
  have hwB12 : w.heap.size ≤ B12 := by have := HB.out.size; omega
  have hneB12B : B < B12 := by have := HG.out.lt; omega
  have hneB12B6 : B6 < B12 := by have := HG1.out.lt; omega
  have hneB12B9 : B9 < B12 := by have := HG2.out.lt; omega
  have HG := Lib.hid (HG.out.later q4)
  have HG1 := Lib.hid (HG1.out.later q4)
  have HG2 := Lib.hid (HG2.out.later q4)
  clear q4
  go_wp2_with ((with_reducible refine wpList_putG (g := g3) q3 ?_ ?_ ?_); rfl; rfl)
  intro wc3 sc bc kc
  have HB := Lib.hid (below_grown HBn.out kc HBn.out.size hwB12)
  have HG := Lib.hid (HG.out.grown kc (by omega))
  have HG1 := Lib.hid (HG1.out.grown kc (by omega))
  have HG2 := Lib.hid (HG2.out.grown kc (by omega))
  have HG3 := Lib.hid bc
  clear q3 bc kc sc hneB12B hneB12B6 hneB12B9
  have ld := HG.out
  go_wp2_with ((with_reducible refine wpList_getG ld ?_ ?_); rfl)
  refine (specSweepInOrder_any g _ hr HX.out).mono ?_
  rw [HOR.out.1, HOR.out.2]
  rintro e wa4 ⟨g4, r4, rfl, hm, hrr, hb⟩
  have HB := Lib.hid (below_toS HB.out hb)
  have HG := Lib.hid (HG.out.later hb)
  have HG1 := Lib.hid (HG1.out.later hb)
  have HG2 := Lib.hid (HG2.out.later hb)
  have HG3 := Lib.hid (HG3.out.later hb)
  have HM4 := Lib.hid hm
  have HR4 := Lib.hid hrr
  clear ld hm hrr hb
  go_wp2_with (first | (with_reducible refine wpList_new newF ?_) | (with_reducible refine wpList_zero (zeroF _) ?_) | (with_reducible refine wpList_new newG ?_) | (with_reducible refine wpList_zero (zeroG _) ?_))
  intro B15 wb4 q1 q2 q3 q4
  have HBn := Lib.hid (below_toS HB.out q4)
  have hwB15 : w.heap.size ≤ B15 := by have := HB.out.size; omega
  have hneB15B : B < B15 := by have := HG.out.lt; omega
  have hneB15B6 : B6 < B15 := by have := HG1.out.lt; omega
  have hneB15B9 : B9 < B15 := by have := HG2.out.lt; omega
  have hneB15B12 : B12 < B15 := by have := HG3.out.lt; omega
  have HG := Lib.hid (HG.out.later q4)
  have HG1 := Lib.hid (HG1.out.later q4)
  have HG2 := Lib.hid (HG2.out.later q4)
  have HG3 := Lib.hid (HG3.out.later q4)
  clear q4
  go_wp2_with ((with_reducible refine wpList_putG (g := g4) q3 ?_ ?_ ?_); rfl; rfl)
  intro wc4 sc bc kc
  have HB := Lib.hid (below_grown HBn.out kc HBn.out.size hwB15)
  have HG := Lib.hid (HG.out.grown kc (by omega))
  have HG1 := Lib.hid (HG1.out.grown kc (by omega))
  have HG2 := Lib.hid (HG2.out.grown kc (by omega))
  have HG3 := Lib.hid (HG3.out.grown kc (by omega))
  have HG4 := Lib.hid bc
  clear q3 bc kc sc hneB15B hneB15B6 hneB15B9 hneB15B12
  have l1 := HG1.out
  have l2 := HG2.out
  go_wp2_with (first | ((with_reducible refine wpList_getGon ?_ l1 ?_ ?_); (exact rfl); rfl) | ((with_reducible refine wpList_getGon ?_ l2 ?_ ?_); (exact rfl); rfl))
  refine (SameGround_eq g1 g2 _ (HM1x.out.trans HM2.out.symm)).mono ?_
  rintro e wa5 ⟨rfl, hb⟩
  have HB := Lib.hid (below_toS HB.out hb)
  have HG := Lib.hid (HG.out.later hb)
  have HG1 := Lib.hid (HG1.out.later hb)
  have HG2 := Lib.hid (HG2.out.later hb)
  have HG3 := Lib.hid (HG3.out.later hb)
  have HG4 := Lib.hid (HG4.out.later hb)
  clear hb l1 l2
  go_wp2_with fail
  refine (SameNumber_eq r1 r2 _ (HR1.out.out.trans HR2.out.out.symm)).mono ?_
  rintro e wa6 ⟨rfl, rfl⟩
  have l1 := HG3.out
  have l2 := HG4.out
  go_wp2_with (first | ((with_reducible refine wpList_getGon ?_ l1 ?_ ?_); (exact rfl); rfl) | ((with_reducible refine wpList_getGon ?_ l2 ?_ ?_); (exact rfl); rfl))
  refine (SameGround_eq g3 g4 _ (HM3.out.trans HM4.out.symm)).mono ?_
  rintro e wa7 ⟨rfl, hb⟩
  have HB := Lib.hid (below_toS HB.out hb)
  have HG := Lib.hid (HG.out.later hb)
  have HG1 := Lib.hid (HG1.out.later hb)
  have HG2 := Lib.hid (HG2.out.later hb)
  have HG3 := Lib.hid (HG3.out.later hb)
  have HG4 := Lib.hid (HG4.out.later hb)
  clear hb l1 l2
  go_wp2_with fail
  refine (SameNumber_eq r3 r4 _ (HR3.out.out.trans HR4.out.out.symm)).mono ?_
  rintro e wa8 ⟨rfl, rfl⟩
  have HDU : Hid (∀ k, IsCell g.m k → fb (g2.h k) = head g.m k ∧ m1.h k = head g.m k ∧ fin (head g.m k) = true) := by
    intro k hk
    have e1 : m1.h k = head g.m k := by rw [← HM1.out]; exact once_at g.m _ (mem_cellsS.2 hk)
    have e2 : fb (g2.h k) = m1.h k := by rw [← HM2.out]; exact (fm_of hk.1).symm
    obtain ⟨q, hq, _, _⟩ := (N.hb).head N.cg HK.out.sz (by decide) (by decide +kernel) hk
    exact ⟨e2.trans e1, e1, hq.fin⟩
  have HFX : Hid (∀ k, IsCell g.m k → fixB g.fixed k = true → fb (g2.h k) = fb (g.h k) ∧ fb (g4.h k) = fb (g.h k)) := by
    intro k hk hf
    have e0 : g.m.h k = fb (g.h k) := fm_of hk.1
    have e1 : fb (g4.h k) = g4.m.h k := (fm_of hk.1).symm
    refine ⟨((HDU.out k hk).1.trans (head_fix hf)).trans e0, ?_⟩
    rw [e1, show g4.m = _ from HM4.out, (swp_fixed g.m hf _).1]
    exact e0
  have HCH : Hid (∃ p, RV (chg g.m m1) p ∧ (∃ c, IsCell g.m c ∧ RV (fabs (df g.m m1 c)) p) ∧ ∀ c, IsCell g.m c → ∃ q, RV (fabs (df g.m m1 c)) q ∧ q ≤ p) := by
    obtain ⟨o1, o2, _⟩ := HK.out.one N.cg (by decide) (by decide +kernel) N.hb
    rw [HM1.out] at o1 o2
    obtain ⟨p, p1, _, _, p4, p5⟩ := chg_max HK.out.sz o1 (N.hb.mono (by decide +kernel)) o2 (by decide +kernel)
    exact ⟨p, p1, p4, p5⟩
  clear HM1x HG1 HG3 HR1 HR3 HR4 HM3
  go_wp2_with fail
  go_loopw [18, 19] (fun v18 v19 wr => StlRel g.m m1 w wa7 v18 v19 wr) (fun _ v19 _ => 64 - (intOf v19).toNat)
  case atStart => exact ⟨0, by omega, rfl, ⟨false, rfl, rfl⟩, HB.out, Below.refl _ _⟩
  case round =>
    as_aux_lemma =>
    obtain ⟨i, hi, rfl, ⟨y0, rfl, hy0⟩, hB, hBL⟩ := hrel
    have HBr := Lib.hid hB
    have HBL := Lib.hid hBL
    have HGr := Lib.hid (HG.out.below hBL HG.out.lt)
    have HG2r := Lib.hid (HG2.out.below hBL HG2.out.lt)
    have HG4r := Lib.hid (HG4.out.below hBL HG4.out.lt)
    have b1 := HGr.out
    have HY := Lib.hid hy0
    clear hB hBL hy0
    by_cases hil : i < 64
    · have i1 : (i : Int) < 64 := by omega
      cases hh : hasB g.wide g.high i
      · have HH := Lib.hid hh
        have HN : Hid (anyTo g.m m1 (i + 1) = anyTo g.m m1 i) := by show _ = _; rw [any_more, show hasB (G.m g).wide (G.m g).high i = false from HH.out]; simp
        clear hh
        go_wp2_with (first | ((with_reducible refine wpList_getG b1 ?_ ?_); rfl) | (go_at_call 25; refine (A2Is_any g i _ hr hil).mono ?_; rw [HH.out]; rintro e w12 ⟨rfl, hb12⟩; have HB12 := Lib.hid (below_toS HBr.out hb12); have HBL12 := Lib.hid (below_toS HBL.out hb12); clear hb12))
        go_roundw
        case rel => exact ⟨i + 1, by omega, by go_num, ⟨_, rfl, HY.out.trans HN.out.symm⟩, HB12.out, HBL12.out⟩
        case measure => simp [intOf]; omega
      · have HH := Lib.hid hh
        have hc : IsCell g.m i := ⟨hil, hh⟩
        clear hh
        go_wp2_with ((with_reducible refine wpList_getG b1 ?_ ?_); rfl)
        refine (A2Is_any g i _ hr hil).mono ?_
        rw [HH.out]
        rintro e wb1 ⟨rfl, hb⟩
        have HBr := Lib.hid (below_toS HBr.out hb)
        have HBL := Lib.hid (below_toS HBL.out hb)
        have HGr := Lib.hid (HGr.out.later hb)
        have HG2r := Lib.hid (HG2r.out.later hb)
        have HG4r := Lib.hid (HG4r.out.later hb)
        have b1 := HGr.out
        clear hb
        go_wp2_with ((with_reducible refine wpList_getG b1 ?_ ?_); rfl)
        refine (SettledHead_any i g _ HD.out.sane HO.out hc (HDU.out i hc).2.2).mono ?_
        rintro e wb2 ⟨q, rfl, hq, hb⟩
        have HBr := Lib.hid (below_toS HBr.out hb)
        have HBL := Lib.hid (below_toS HBL.out hb)
        have HGr := Lib.hid (HGr.out.later hb)
        have HG2r := Lib.hid (HG2r.out.later hb)
        have HG4r := Lib.hid (HG4r.out.later hb)
        have b1 := HGr.out
        have HQ := Lib.hid hq
        clear hb hq
        have l5 := (GAt.of_blk HGr.out).h (k := i) hil
        have l9 := (GAt.of_blk HG2r.out).h (k := i) hil
        have l15 := (GAt.of_blk HG4r.out).h (k := i) hil
        simp only [Nat.zero_add] at l5 l9 l15
        go_wp2_with fail
        refine (SameNumber_eq q (g2.h i) _ (HQ.out.out.trans (HDU.out i hc).1.symm)).mono ?_
        rintro e wb3 ⟨rfl, rfl⟩
        go_wp2_with fail
        have q5 := fun x => ext_cell wb2 x l5
        have q9 := fun x => ext_cell wb2 x l9
        refine wp_soft SF1 (by kernel_rfl) (by kernel_rfl) ?_
        repeat (first | (refine soft_arith (fun _ n h => h.drewN n) _ _ rfl rfl rfl ?_; intro rS hS) | (refine soft_step (fun K hK => ?_); go_simp; (try go_bits); refine hK _ ?_; clear hK K) | (refine soft_step (fun K hK => ?_); go_simp; refine ⟨_, _, ⟨rfl, rfl⟩, fun x => (A2Size_any _ _ _ Is.rfl).mono ?_, ?_⟩; (rintro e w1 ⟨r, he, hr, hb⟩; exact ⟨_, he, ⟨_, r, rfl, rfl, hr⟩, hb⟩); rintro v ⟨_, rZ, e, rfl, hZ⟩; cases e; refine hK _ ?_; clear hK K))
        refine soft_nil ?_
        rintro wb4 hw
        have hb := hw.below
        have HBr := Lib.hid (below_toS HBr.out hb)
        have HBL := Lib.hid (below_toS HBL.out hb)
        have HGr := Lib.hid (HGr.out.later hb)
        have HG2r := Lib.hid (HG2r.out.later hb)
        have HG4r := Lib.hid (HG4r.out.later hb)
        have b1 := HGr.out
        have HZ : Hid (fb rZ = fabs (df g.m m1 i)) := by
          show _ = _
          rw [hZ.out, hS.out]
          show fabs (fsub (fb (g2.h i)) (fb (g.h i))) = fabs (fsub (m1.h i) (g.m.h i))
          rw [(HDU.out i hc).1, (HDU.out i hc).2.1, show g.m.h i = fb (g.h i) from fm_of hil]
        have HR2' : Hid (fb r2 = chg g.m m1) := HR2.out.out
        have hg0 : fgt (fb rZ) (fb r2) = false := by
          obtain ⟨p, hp, hex, hall⟩ := HCH.out
          obtain ⟨qz, hqz, hle⟩ := hall i hc
          rw [HZ.out, HR2'.out, hqz.gt hp]; exact decide_eq_false (Rat.not_lt.2 hle)
        obtain ⟨y, hy⟩ : ∃ y, feq (fb rZ) (fb r2) = y := ⟨_, rfl⟩
        have HAN : Hid (anyTo g.m m1 (i + 1) = (y0 || y)) := by show _ = _; rw [any_more, show hasB (G.m g).wide (G.m g).high i = true from HH.out, Bool.true_and, ← HZ.out, ← HR2'.out, hy, HY.out]
        obtain ⟨r0, r1'⟩ := shr_range i HD.out.sane.f0 HD.out.sane.f1
        have l0 := (GAt.of_blk HGr.out).fixed
        have l5 := (GAt.of_blk HGr.out).h (k := i) hil
        have l9 := (GAt.of_blk HG2r.out).h (k := i) hil
        have l15 := (GAt.of_blk HG4r.out).h (k := i) hil
        have l3 := (GAt.of_blk HGr.out).g (k := i) hil
        simp only [Nat.zero_add] at l0 l3 l5 l9 l15
        clear hb hw hS hZ
        have hgt := order_gt
        have heq := order_eq
        have hne := order_ne
        go_upto_region 21 with fail
        go_cut [18] from 113 to 266 (fun s18 wx => s18 = .bool (y0 || y) ∧ wb4 = wx)
        case first =>
          cases y0
          all_goals
            go_wp2_with fail
            go_meet
            case rel => exact ⟨rfl, rfl⟩
        case rest =>
          as_aux_lemma =>
          obtain ⟨rfl, rfl⟩ := hcut
          have HA2 := HAN
          clear HAN hg0 hy heq
          by_cases hf : fixB g.fixed i = true
          · have hf2 : (g.fixed / 2 ^ i % 2 == 1) = true := by have := of_decide_eq_true hf; rw [this]; rfl
            have HF1 := Lib.hid (HFX.out i hc hf).1
            have HF2 := Lib.hid (HFX.out i hc hf).2
            go_wp2_with fail
            have q5 := fun x => ext_cell wb4 x l5
            have q9 := fun x => ext_cell wb4 x l9
            have q15 := fun x => ext_cell wb4 x l15
            refine wp_soft (SV (.bool true)) (by kernel_rfl) (by kernel_rfl) ?_
            repeat (first | (refine soft_step (fun K hK => ?_); go_simp; (try go_bits); refine hK _ ?_; clear hK K) | (refine soft_step (fun K hK => ?_); go_simp; refine ⟨_, _, ⟨rfl, rfl⟩, fun x => ?_, ?_⟩; (first | (refine (SameNumber_eq (g2.h i) (g.h i) _ HF1.out).mono ?_) | (refine (SameNumber_eq (g4.h i) (g.h i) _ HF2.out).mono ?_)); (rintro e w1 ⟨he, rfl⟩; exact ⟨_, he, rfl, Below.refl _ _⟩); rintro v rfl; refine hK _ ?_; clear hK K))
            refine soft_nil ?_
            rintro wb5 hw
            have hb := hw.below
            have HBr := Lib.hid (below_toS HBr.out hb)
            have HBL := Lib.hid (below_toS HBL.out hb)
            clear hb hw
            go_wp2_with fail
            go_roundw
            case rel => exact ⟨i + 1, by omega, by go_num, ⟨_, rfl, HA2.out.symm⟩, HBr.out, HBL.out⟩
            case measure => simp [intOf]; omega
          have hfx : fixB g.fixed i = false := by cases h : fixB g.fixed i; rfl; exact absurd h hf
          have hf2 : (g.fixed / 2 ^ i % 2 == 1) = false := by have h0 := of_decide_eq_false hfx; generalize g.fixed / 2 ^ i % 2 = z at *; simpa using h0
          have HFX0 := Lib.hid hfx
          clear hf hfx
          by_cases hz : N.g i = 0
          rotate_left
          · have hgg : feq (fb (g.g i)) (fb 0) = false := by rw [feq_gain N hc]; exact decide_eq_false hz
            go_wp2_with fail
            go_roundw
            case rel => exact ⟨i + 1, by omega, by go_num, ⟨_, rfl, HA2.out.symm⟩, HBr.out, HBL.out⟩
            case measure => simp [intOf]; omega
          have hgg : feq (fb (g.g i)) (fb 0) = true := by rw [feq_gain N hc]; exact decide_eq_true hz
          have HZ0 := Lib.hid hz
          clear hz
          go_wp2_with fail
          go_loopw [23, 24, 25, 26] (fun v23 v24 v25 v26 wr => SideRel g N i w wb4 v23 v24 v25 v26 wr) (fun _ _ _ v26 _ => 4 - (intOf v26).toNat)
          case atStart => exact ⟨0, i, i, true, by omega, rfl, rfl, rfl, rfl, SideOk.start hc, HBr.out, Below.refl _ _⟩
          case round =>
            as_aux_lemma =>
            obtain ⟨s, ia, ib, f, hs, rfl, rfl, rfl, rfl, hok, hB, hB2⟩ := hrel
            have HBs := Lib.hid hB
            have HBLs := Lib.hid hB2
            have HGs := Lib.hid (HGr.out.below hB2 HGr.out.lt)
            have HOK := Lib.hid hok
            have b1 := HGs.out
            clear hB hok l0 l3 l5 l9 l15
            by_cases hs4 : s < 4
            · have s1 : (s : Int) < 4 := by omega
              clear hB2
              go_wp2_with ((with_reducible refine wpList_getG b1 ?_ ?_); rfl)
              refine (specBesideCell_any i s g _ HD.out.sane HO.out hc hs4).mono ?_
              by_cases hn : beside g.wide g.high i s < 0
              · rw [show besZ g.m i s = 0 from if_pos hn, show besC g.m i s = 6 from if_pos hn]
                rintro e wd1 ⟨rfl, hb⟩
                have HBs := Lib.hid (below_toS HBs.out hb)
                have HBLs := Lib.hid (below_toS HBLs.out hb)
                have HOK2 := Lib.hid (HOK.out.none hn)
                clear hb hn
                go_wp2_with fail
                refine wp_soft (SV (.bool true)) (by kernel_rfl) (by kernel_rfl) ?_
                repeat (first | (refine soft_step (fun K hK => ?_); go_simp; (try go_bits); refine hK _ ?_; clear hK K))
                refine soft_nil ?_
                rintro wd2 hw
                have hb := hw.below
                have HBs := Lib.hid (below_toS HBs.out hb)
                have HBLs := Lib.hid (below_toS HBLs.out hb)
                clear hb hw
                go_wp2_with fail
                go_roundw
                case rel => exact ⟨s + 1, ia, ib, f, by omega, by go_num, rfl, rfl, rfl, HOK2.out, HBs.out, HBLs.out⟩
                case measure => simp [intOf]; omega
              · obtain ⟨n, hn2⟩ : ∃ n : Nat, beside g.wide g.high i s = n := ⟨(beside g.wide g.high i s).toNat, by omega⟩
                rw [show besZ g.m i s = beside g.wide g.high i s from if_neg hn, show besC g.m i s = 0 from if_neg hn, hn2]
                have hcn : IsCell g.m n := beside_cell HK.out.sz hil hn2
                have HN2 := Lib.hid hn2
                rintro e wd1 ⟨rfl, hb⟩
                have HBs := Lib.hid (below_toS HBs.out hb)
                have HBLs := Lib.hid (below_toS HBLs.out hb)
                have HGs := Lib.hid (HGs.out.later hb)
                clear hb hn hn2
                have hn64 : n < 64 := hcn.1
                have n1 : (n : Int) < 64 := by omega
                have l2 := (GAt.of_blk HGs.out).c (k := i) hil
                have l2n := (GAt.of_blk HGs.out).c (k := n) hn64
                simp only [Nat.zero_add] at l2 l2n
                have q2 := fun x => ext_cell wd1 x l2
                have q2n := fun x => ext_cell wd1 x l2n
                have hj0 : ∀ r, Is r (joint (fb (g.c i)) (fb (g.c n))) → fgt (fb r) (fb 0) = decide (jQ (N.c i) (N.c n) ≠ 0) := fun r h => by rw [h.out, fb0]; exact fgt_joint N hc hcn
                by_cases hj : jQ (N.c i) (N.c n) = 0
                · have HJF : Hid (∀ r, Is r (joint (fb (g.c i)) (fb (g.c n))) → fgt (fb r) (fb 0) = false) := by intro r h; rw [hj0 r h]; exact decide_eq_false (fun h => h hj)
                  have HOK2 := Lib.hid (HOK.out.zero HN2.out hj)
                  clear hj hj0
                  go_wp2_with fail
                  refine wp_soft (SF (joint (fb (g.c i)) (fb (g.c n)))) (by kernel_rfl) (by kernel_rfl) ?_
                  repeat (first | (refine soft_step (fun K hK => ?_); go_simp; (try go_bits); refine hK _ ?_; clear hK K) | (refine soft_step (fun K hK => ?_); go_simp; refine ⟨_, _, ⟨rfl, rfl⟩, fun x => (JointOf_any _ _ _).mono ?_, ?_⟩; (rintro e w1 ⟨r, he, hr, hb⟩; exact ⟨_, he, ⟨r, rfl, hr⟩, hb⟩); rintro v ⟨rJ, rfl, hJ⟩; have hj1 := HJF.out rJ hJ; refine hK _ ?_; clear hK K))
                  refine soft_nil ?_
                  rintro wd2 hw
                  have hb := hw.below
                  have HBs := Lib.hid (below_toS HBs.out hb)
                  have HBLs := Lib.hid (below_toS HBLs.out hb)
                  have HGs := Lib.hid (HGs.out.later hb)
                  clear hb hw q2 q2n l2 l2n
                  have l4n := (GAt.of_blk HGs.out).h (k := n) hn64
                  simp only [Nat.zero_add] at l4n
                  go_wp2_with fail
                  go_roundw
                  case rel => exact ⟨s + 1, ia, ib, f, by omega, by go_num, rfl, rfl, rfl, HOK2.out, HBs.out, HBLs.out⟩
                  case measure => simp [intOf]; omega
                · have HJF : Hid (∀ r, Is r (joint (fb (g.c i)) (fb (g.c n))) → fgt (fb r) (fb 0) = true) := by intro r h; rw [hj0 r h]; exact decide_eq_true hj
                  have HJ := Lib.hid hj
                  clear hj hj0
                  go_wp2_with fail
                  refine wp_soft (SF (joint (fb (g.c i)) (fb (g.c n)))) (by kernel_rfl) (by kernel_rfl) ?_
                  repeat (first | (refine soft_step (fun K hK => ?_); go_simp; (try go_bits); refine hK _ ?_; clear hK K) | (refine soft_step (fun K hK => ?_); go_simp; refine ⟨_, _, ⟨rfl, rfl⟩, fun x => (JointOf_any _ _ _).mono ?_, ?_⟩; (rintro e w1 ⟨r, he, hr, hb⟩; exact ⟨_, he, ⟨r, rfl, hr⟩, hb⟩); rintro v ⟨rJ, rfl, hJ⟩; have hj1 := HJF.out rJ hJ; refine hK _ ?_; clear hK K))
                  refine soft_nil ?_
                  rintro wd2 hw
                  have hb := hw.below
                  have HBs := Lib.hid (below_toS HBs.out hb)
                  have HBLs := Lib.hid (below_toS HBLs.out hb)
                  have HGs := Lib.hid (HGs.out.later hb)
                  clear hb hw q2 q2n l2 l2n
                  have l4n := (GAt.of_blk HGs.out).h (k := n) hn64
                  simp only [Nat.zero_add] at l4n
                  cases f
                  · have hlt := order_lt
                    have u1 := flt_hh N HOK.out.ca hcn
                    have u2 := fgt_hh N HOK.out.cb hcn
                    by_cases k1 : N.h n < N.h ia
                    · rw [decide_eq_true k1] at u1
                      by_cases k2 : N.h ib < N.h n
                      · rw [decide_eq_true k2] at u2
                        have HOK2 := Lib.hid (HOK.out.next HN2.out hcn HJ.out (a' := n) (b' := n) (if_pos k1).symm (if_pos k2).symm)
                        clear k1 k2
                        go_wp2_with fail
                        go_roundw
                        case rel => exact ⟨s + 1, n, n, false, by omega, by go_num, rfl, rfl, rfl, HOK2.out, HBs.out, HBLs.out⟩
                        case measure => simp [intOf]; omega
                      · rw [decide_eq_false k2] at u2
                        have HOK2 := Lib.hid (HOK.out.next HN2.out hcn HJ.out (a' := n) (b' := ib) (if_pos k1).symm (if_neg k2).symm)
                        clear k1 k2
                        go_wp2_with fail
                        go_roundw
                        case rel => exact ⟨s + 1, n, ib, false, by omega, by go_num, rfl, rfl, rfl, HOK2.out, HBs.out, HBLs.out⟩
                        case measure => simp [intOf]; omega
                    · rw [decide_eq_false k1] at u1
                      by_cases k2 : N.h ib < N.h n
                      · rw [decide_eq_true k2] at u2
                        have HOK2 := Lib.hid (HOK.out.next HN2.out hcn HJ.out (a' := ia) (b' := n) (if_neg k1).symm (if_pos k2).symm)
                        clear k1 k2
                        go_wp2_with fail
                        go_roundw
                        case rel => exact ⟨s + 1, ia, n, false, by omega, by go_num, rfl, rfl, rfl, HOK2.out, HBs.out, HBLs.out⟩
                        case measure => simp [intOf]; omega
                      · rw [decide_eq_false k2] at u2
                        have HOK2 := Lib.hid (HOK.out.next HN2.out hcn HJ.out (a' := ia) (b' := ib) (if_neg k1).symm (if_neg k2).symm)
                        clear k1 k2
                        go_wp2_with fail
                        go_roundw
                        case rel => exact ⟨s + 1, ia, ib, false, by omega, by go_num, rfl, rfl, rfl, HOK2.out, HBs.out, HBLs.out⟩
                        case measure => simp [intOf]; omega
                  · have HOK2 := Lib.hid (HOK.out.first HN2.out hcn HJ.out)
                    go_wp2_with fail
                    go_roundw
                    case rel => exact ⟨s + 1, n, n, false, by omega, by go_num, rfl, rfl, rfl, HOK2.out, HBs.out, HBLs.out⟩
                    case measure => simp [intOf]; omega
            · have s1 : ¬ (s : Int) < 4 := by omega
              obtain rfl : s = 4 := by omega
              obtain ⟨q0, hq0, hq1, hq2⟩ := HOK.out.mid HK.out.sz hc HFX0.out HZ0.out
              have hx : RV (fb (g2.h i)) q0 := by rw [(HDU.out i hc).1]; exact hq0
              obtain ⟨rl, hl1, hl2⟩ := low_ok hx (rvb N HOK.out.ca) hq1 (quart_hi N ia) (quart_lo N ia)
              obtain ⟨ru, hu1, hu2⟩ := high_ok hx (rvb N HOK.out.cb) hq2 (quart_hi N ib) (quart_lo N ib)
              have efc : fb 981668463 = some 981668463 := by decide +kernel
              have hl3 : fsub (fb (g.h ia)) (fb 981668463) = some rl := by rw [efc]; exact hl1
              have hu3 : fadd (fb (g.h ib)) (fb 981668463) = some ru := by rw [efc]; exact hu1
              have pl : ∀ (w : World) (t : TypeId), Sem.run Try.prog (binOp .sub t (.float .f32 (g.h ia)) (.float .f32 981668463)) w = .ok (.float .f32 rl) w := fun w t => run_arith_some w rfl hl3
              have pu : ∀ (w : World) (t : TypeId), Sem.run Try.prog (binOp .add t (.float .f32 (g.h ib)) (.float .f32 981668463)) w = .ok (.float .f32 ru) w := fun w t => run_arith_some w rfl hu3
              have z1 : flt (fb (g2.h i)) (fb rl) = false := by rw [fb_sub ((fsub_fb _ _).symm.trans hl3)]; exact hl2
              have z2 : fgt (fb (g2.h i)) (fb ru) = false := by rw [fb_add ((fadd_fb _ _).symm.trans hu3)]; exact hu2
              have l9 := (GAt.of_blk (HG2r.out.below hB2 HG2r.out.lt)).h (k := i) hil
              simp only [Nat.zero_add] at l9
              have HBLz := Lib.hid (below_toS HBL.out hB2)
              have hlt := order_lt
              clear hB2 hx hq0 hq1 hq2 hl1 hl2 hu1 hu2 hl3 hu3 efc b1
              go_wp2_with fail
              go_roundw
              case rel => exact ⟨i + 1, by omega, by go_num, ⟨_, rfl, HA2.out.symm⟩, HBs.out, HBLz.out⟩
              case measure => simp [intOf]; omega
    · have i1 : ¬ (i : Int) < 64 := by omega
      obtain rfl : i = 64 := by omega
      obtain rfl : y0 = true := by
        obtain ⟨p, hp, ⟨c, hc, hpc⟩, _⟩ := HCH.out
        exact HY.out.trans (any_all ⟨c, hc, by rw [hpc.eq hp]; exact decide_eq_true rfl⟩)
      have HB := HBr
      clear HBr HBL HG2r HG4r b1
      have hBw : B < wr.heap.size := HGr.out.lt
      have ld := HGr.out
      go_wp2_with ((with_reducible refine wpList_getG ld ?_ ?_); rfl)
      refine (SweepColour_any g 0 _ hr HX.out).mono ?_
      rw [HC0.out.2.1, HC0.out.2.2.1, HC0.out.1]
      rintro e wa9 ⟨g5, r5, rfl, hm, hrr, hb⟩
      have HB := Lib.hid (below_toS HB.out hb)
      have HGr := Lib.hid (HGr.out.later hb)
      have HM5 := Lib.hid hm
      have HR5 := Lib.hid hrr
      clear ld hm hrr hb
      go_wp2_with (first | (with_reducible refine wpList_new newF ?_) | (with_reducible refine wpList_zero (zeroF _) ?_) | (with_reducible refine wpList_new newG ?_) | (with_reducible refine wpList_zero (zeroG _) ?_))
      intro B29 wb9 q1 q2 q3 q4
      have HBn := Lib.hid (below_toS HB.out q4)
      have hwB29 : w.heap.size ≤ B29 := by have := HB.out.size; omega
      have hneB29B : B < B29 := by have := HGr.out.lt; omega
      have HGr := Lib.hid (HGr.out.later q4)
      clear q4
      go_wp2_with ((with_reducible refine wpList_putG (g := g5) q3 ?_ ?_ ?_); rfl; rfl)
      intro wc9 sc bc kc
      have HB := Lib.hid (below_grown HBn.out kc HBn.out.size hwB29)
      have HGr := Lib.hid (HGr.out.grown kc (by omega))
      have HG5 := Lib.hid bc
      clear q3 bc kc sc hneB29B
      have ld := HGr.out
      go_wp2_with ((with_reducible refine wpList_getG ld ?_ ?_); rfl)
      refine (specSweepColour_any g 0 _ hr HX.out).mono ?_
      rw [HC0.out.2.1, HC0.out.2.2.1, HC0.out.1]
      rintro e wa10 ⟨g6, r6, rfl, hm, hrr, hb⟩
      have HB := Lib.hid (below_toS HB.out hb)
      have HGr := Lib.hid (HGr.out.later hb)
      have HG5 := Lib.hid (HG5.out.later hb)
      have HM6 := Lib.hid hm
      have HR6 := Lib.hid hrr
      clear ld hm hrr hb
      go_wp2_with (first | (with_reducible refine wpList_new newF ?_) | (with_reducible refine wpList_zero (zeroF _) ?_) | (with_reducible refine wpList_new newG ?_) | (with_reducible refine wpList_zero (zeroG _) ?_))
      intro B32 wb10 q1 q2 q3 q4
      have HBn := Lib.hid (below_toS HB.out q4)
      have hwB32 : w.heap.size ≤ B32 := by have := HB.out.size; omega
      have hneB32B : B < B32 := by have := HGr.out.lt; omega
      have hneB32B29 : B29 < B32 := by have := HG5.out.lt; omega
      have HGr := Lib.hid (HGr.out.later q4)
      have HG5 := Lib.hid (HG5.out.later q4)
      clear q4
      go_wp2_with ((with_reducible refine wpList_putG (g := g6) q3 ?_ ?_ ?_); rfl; rfl)
      intro wc10 sc bc kc
      have HB := Lib.hid (below_grown HBn.out kc HBn.out.size hwB32)
      have HGr := Lib.hid (HGr.out.grown kc (by omega))
      have HG5 := Lib.hid (HG5.out.grown kc (by omega))
      have HG6 := Lib.hid bc
      clear q3 bc kc sc hneB32B hneB32B29
      have hr6 : g6.Rng := rng_of (by rw [show g6.m = mh from HM6.out]; exact HTW.out.1.sz)
      have HX6 : Hid g6.Fx := by
        have e : g6.fixed = g.fixed := by
          have h1 : g6.m.fixed = g.m.fixed := by rw [show g6.m = mh from HM6.out]; exact HC0.out.2.2.2.2.1.fixed
          exact h1
        show 0 ≤ g6.fixed ∧ _
        rw [e]; exact HX.out
      have ld := HG6.out
      go_wp2_with ((with_reducible refine wpList_getG ld ?_ ?_); rfl)
      refine (SweepColour_any g6 1 _ hr6 HX6.out).mono ?_
      rw [show g6.m = mh from HM6.out, HTW.out.2.2.1, HTW.out.2.2.2.1, HTW.out.2.1]
      rintro e wa11 ⟨g7, r7, rfl, hm, hrr, hb⟩
      have HB := Lib.hid (below_toS HB.out hb)
      have HGr := Lib.hid (HGr.out.later hb)
      have HG5 := Lib.hid (HG5.out.later hb)
      have HG6 := Lib.hid (HG6.out.later hb)
      have HM7 := Lib.hid hm
      have HR7 := Lib.hid hrr
      clear ld hm hrr hb
      go_wp2_with (first | (with_reducible refine wpList_new newF ?_) | (with_reducible refine wpList_zero (zeroF _) ?_) | (with_reducible refine wpList_new newG ?_) | (with_reducible refine wpList_zero (zeroG _) ?_))
      intro B35 wb11 q1 q2 q3 q4
      have HBn := Lib.hid (below_toS HB.out q4)
      have hwB35 : w.heap.size ≤ B35 := by have := HB.out.size; omega
      have hneB35B : B < B35 := by have := HGr.out.lt; omega
      have hneB35B29 : B29 < B35 := by have := HG5.out.lt; omega
      have hneB35B32 : B32 < B35 := by have := HG6.out.lt; omega
      have HGr := Lib.hid (HGr.out.later q4)
      have HG5 := Lib.hid (HG5.out.later q4)
      have HG6 := Lib.hid (HG6.out.later q4)
      clear q4
      go_wp2_with ((with_reducible refine wpList_putG (g := g7) q3 ?_ ?_ ?_); rfl; rfl)
      intro wc11 sc bc kc
      have HB := Lib.hid (below_grown HBn.out kc HBn.out.size hwB35)
      have HGr := Lib.hid (HGr.out.grown kc (by omega))
      have HG5 := Lib.hid (HG5.out.grown kc (by omega))
      have HG6 := Lib.hid (HG6.out.grown kc (by omega))
      have HG7 := Lib.hid bc
      clear q3 bc kc sc hneB35B hneB35B29 hneB35B32
      have ld := HGr.out
      go_wp2_with ((with_reducible refine wpList_getG ld ?_ ?_); rfl)
      refine (SweepBoth_any g _ hr HX.out).mono ?_
      rw [HTW.out.2.2.2.2]
      rintro e wa12 ⟨g8, r8, rfl, hm, hrr, hb⟩
      have HB := Lib.hid (below_toS HB.out hb)
      have HGr := Lib.hid (HGr.out.later hb)
      have HG5 := Lib.hid (HG5.out.later hb)
      have HG6 := Lib.hid (HG6.out.later hb)
      have HG7 := Lib.hid (HG7.out.later hb)
      have HM8 := Lib.hid hm
      have HR8 := Lib.hid hrr
      clear ld hm hrr hb
      go_wp2_with (first | (with_reducible refine wpList_new newF ?_) | (with_reducible refine wpList_zero (zeroF _) ?_) | (with_reducible refine wpList_new newG ?_) | (with_reducible refine wpList_zero (zeroG _) ?_))
      intro B38 wb12 q1 q2 q3 q4
      have HBn := Lib.hid (below_toS HB.out q4)
      have hwB38 : w.heap.size ≤ B38 := by have := HB.out.size; omega
      have hneB38B : B < B38 := by have := HGr.out.lt; omega
      have hneB38B29 : B29 < B38 := by have := HG5.out.lt; omega
      have hneB38B32 : B32 < B38 := by have := HG6.out.lt; omega
      have hneB38B35 : B35 < B38 := by have := HG7.out.lt; omega
      have HGr := Lib.hid (HGr.out.later q4)
      have HG5 := Lib.hid (HG5.out.later q4)
      have HG6 := Lib.hid (HG6.out.later q4)
      have HG7 := Lib.hid (HG7.out.later q4)
      clear q4
      go_wp2_with ((with_reducible refine wpList_putG (g := g8) q3 ?_ ?_ ?_); rfl; rfl)
      intro wc12 sc bc kc
      have HB := Lib.hid (below_grown HBn.out kc HBn.out.size hwB38)
      have HGr := Lib.hid (HGr.out.grown kc (by omega))
      have HG5 := Lib.hid (HG5.out.grown kc (by omega))
      have HG6 := Lib.hid (HG6.out.grown kc (by omega))
      have HG7 := Lib.hid (HG7.out.grown kc (by omega))
      have HG8 := Lib.hid bc
      clear q3 bc kc sc hneB38B hneB38B29 hneB38B32 hneB38B35
      have l1 := HG5.out
      have l2 := HG6.out
      go_wp2_with (first | ((with_reducible refine wpList_getGon ?_ l1 ?_ ?_); (exact rfl); rfl) | ((with_reducible refine wpList_getGon ?_ l2 ?_ ?_); (exact rfl); rfl))
      refine (SameGround_eq g5 g6 _ (HM5.out.trans HM6.out.symm)).mono ?_
      rintro e wa13 ⟨rfl, hb⟩
      have HB := Lib.hid (below_toS HB.out hb)
      have HGr := Lib.hid (HGr.out.later hb)
      have HG5 := Lib.hid (HG5.out.later hb)
      have HG6 := Lib.hid (HG6.out.later hb)
      have HG7 := Lib.hid (HG7.out.later hb)
      have HG8 := Lib.hid (HG8.out.later hb)
      clear hb l1 l2
      go_wp2_with fail
      refine (SameNumber_eq r5 r6 _ (HR5.out.out.trans HR6.out.out.symm)).mono ?_
      rintro e wa14 ⟨rfl, rfl⟩
      have l1 := HG8.out
      have l2 := HG7.out
      go_wp2_with (first | ((with_reducible refine wpList_getGon ?_ l1 ?_ ?_); (exact rfl); rfl) | ((with_reducible refine wpList_getGon ?_ l2 ?_ ?_); (exact rfl); rfl))
      refine (SameGround_eq g8 g7 _ (HM8.out.trans HM7.out.symm)).mono ?_
      rintro e wa15 ⟨rfl, hb⟩
      have HB := Lib.hid (below_toS HB.out hb)
      have HGr := Lib.hid (HGr.out.later hb)
      have HG5 := Lib.hid (HG5.out.later hb)
      have HG6 := Lib.hid (HG6.out.later hb)
      have HG7 := Lib.hid (HG7.out.later hb)
      have HG8 := Lib.hid (HG8.out.later hb)
      clear hb l1 l2
      have hne := order_ne
      obtain ⟨⟨b6, hb6, hb62⟩, b7, hb7, _⟩ := HNU.out
      have e6 : fb r6 = some b6 := HR6.out.out.trans hb6
      have e7 : fb r7 = some b7 := HR7.out.out.trans hb7
      have hmax := run_max_num (P := Try.prog) (x := r6) (y := r7) e6 hb62 (by rw [e7]; simp)
      have HF : Hid (feq (fb r8) (fb (if fgt (fb r7) (fb r6) then r7 else r6)) = true) := by
        show _ = _
        have e8 : fb r8 = fb (if fgt (fb r7) (fb r6) then r7 else r6) := by
          rw [HR8.out.out]
          show fgreat (chg g.m mh) (chg mh mb) = _
          rw [hb6, hb7, e6, e7]
          unfold fgreat
          split
          · exact e7.symm
          · exact e6.symm
        rw [e8]
        split
        · exact feq_num e7
        · exact feq_num e6
      generalize (if fgt (fb r7) (fb r6) then r7 else r6) = r67 at hmax HF
      have hf0 := HF.out
      clear e6 e7 hb6 hb62 hb7 HF
      have ld := HGr.out
      go_wp2_with ((with_reducible refine wpList_getG ld ?_ ?_); rfl)
      refine (RelaxedSweep_any g 0 _ hr HX.out).mono ?_
      rw [fb0, HRL.out.2.1, HRL.out.2.2, HRL.out.1]
      rintro e wa16 ⟨g9, r9, rfl, hm, hrr, hb⟩
      have HB := Lib.hid (below_toS HB.out hb)
      have HGr := Lib.hid (HGr.out.later hb)
      have HG5 := Lib.hid (HG5.out.later hb)
      have HG6 := Lib.hid (HG6.out.later hb)
      have HG7 := Lib.hid (HG7.out.later hb)
      have HG8 := Lib.hid (HG8.out.later hb)
      have HM9 := Lib.hid hm
      have HR9 := Lib.hid hrr
      clear ld hm hrr hb
      go_wp2_with (first | (with_reducible refine wpList_new newF ?_) | (with_reducible refine wpList_zero (zeroF _) ?_) | (with_reducible refine wpList_new newG ?_) | (with_reducible refine wpList_zero (zeroG _) ?_))
      intro B41 wb16 q1 q2 q3 q4
      have HBn := Lib.hid (below_toS HB.out q4)
      have hwB41 : w.heap.size ≤ B41 := by have := HB.out.size; omega
      have hneB41B : B < B41 := by have := HGr.out.lt; omega
      have hneB41B29 : B29 < B41 := by have := HG5.out.lt; omega
      have hneB41B32 : B32 < B41 := by have := HG6.out.lt; omega
      have hneB41B35 : B35 < B41 := by have := HG7.out.lt; omega
      have hneB41B38 : B38 < B41 := by have := HG8.out.lt; omega
      have HGr := Lib.hid (HGr.out.later q4)
      have HG5 := Lib.hid (HG5.out.later q4)
      have HG6 := Lib.hid (HG6.out.later q4)
      have HG7 := Lib.hid (HG7.out.later q4)
      have HG8 := Lib.hid (HG8.out.later q4)
      clear q4
      go_wp2_with ((with_reducible refine wpList_putG (g := g9) q3 ?_ ?_ ?_); rfl; rfl)
      intro wc16 sc bc kc
      have HB := Lib.hid (below_grown HBn.out kc HBn.out.size hwB41)
      have HGr := Lib.hid (HGr.out.grown kc (by omega))
      have HG5 := Lib.hid (HG5.out.grown kc (by omega))
      have HG6 := Lib.hid (HG6.out.grown kc (by omega))
      have HG7 := Lib.hid (HG7.out.grown kc (by omega))
      have HG8 := Lib.hid (HG8.out.grown kc (by omega))
      have HG9 := Lib.hid bc
      clear q3 bc kc sc hneB41B hneB41B29 hneB41B32 hneB41B35 hneB41B38
      have l1 := HG9.out
      have l2 := HGr.out
      go_wp2_with (first | ((with_reducible refine wpList_getGon ?_ l1 ?_ ?_); (exact rfl); rfl) | ((with_reducible refine wpList_getGon ?_ l2 ?_ ?_); (exact rfl); rfl))
      refine (SameGround_eq g9 g _ HM9.out).mono ?_
      rintro e wz ⟨rfl, hb⟩
      have HB := Lib.hid (below_toS HB.out hb)
      clear hb l1 l2
      have heq := order_eq
      have hz0 : feq (fb r9) (fb 0) = true := by rw [HR9.out.out, fb0]; decide +kernel
      go_wp2_with fail
      go_ret
      exact ⟨rfl, HB.out⟩
end Go.Proofs.Ytfcphfdfpjmgiaa
