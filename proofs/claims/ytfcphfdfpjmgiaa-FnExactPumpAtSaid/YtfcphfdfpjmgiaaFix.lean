/- Whether a cell is fixed; the settled head of a cell. -/
import Derived.Test.YtfcphfdfpjmgiaaToG
import Derived.Test.YtfcphfdfpjmgiaaBalOf
import Derived.Laws.BitsAllLaws
namespace Go.Proofs.Ytfcphfdfpjmgiaa
open Go.RowKit

/-- What is needed of a ground's numbers. -/
structure G.Sane (g : G) : Prop where
  rng : g.Rng
  lW : 2 ≤ g.wide
  lH : 2 ≤ g.high
  hW : g.wide ≤ 8
  hH : g.high ≤ 8
  f0 : 0 ≤ g.fixed
  f1 : g.fixed < 18446744073709551616

def G.Fx (g : G) : Prop := 0 ≤ g.fixed ∧ g.fixed < 18446744073709551616
theorem sane_of {g : G} (h : okI g.m = true) (hx : g.Fx) : g.Sane := by
  obtain ⟨⟨a, c⟩, b, d⟩ := sized_of h
  exact ⟨rng_of (sized_of h), a, b, c, d, hx.1, hx.2⟩

def fixB (x : Int) (k : Nat) : Bool := decide (x / 2 ^ k % 2 = 1)

theorem shr_range {x : Int} (k : Nat) (h0 : 0 ≤ x) (h1 : x < 18446744073709551616) : 0 ≤ x / 2 ^ k ∧ x / 2 ^ k < 18446744073709551616 := by
  have hp : (0 : Int) < 2 ^ k := Int.pow_pos (by decide)
  refine ⟨Int.ediv_nonneg h0 (by omega), ?_⟩
  have := Int.ediv_le_self (2 ^ k) h0
  omega

set_option maxHeartbeats 400000 in
theorem fixed_any (b o k : Nat) (g : G) (w : World) (hk : k < 64) (hs : g.Sane) (hg : GAt w b o g) :
    Calls Try.prog 117 #[.pointer (some ⟨b, o, none⟩), .int .i64 k] w fun e w' => e = .returned (.bool (fixB g.fixed k)) ∧ w = w' := by
  have hc := hg.fixed
  obtain ⟨r0, r1⟩ := shr_range k hs.f0 hs.f1
  clear hg hs
  go_enter Try.func117, Try.ntmps117
  go_wp2_with fail
  go_ret
  refine ⟨ret_bool ?_, rfl⟩
  rw [show (1 : Int) = ((1 : Nat) : Int) from rfl, u64_and _ _ r0 r1 (by decide) (by decide)]
  unfold fixB
  have e : (((1 : Nat) : Int)).toNat = 1 := rfl
  rw [e, nat_mask1]
  generalize g.fixed / 2 ^ k = y at *
  rw [Bool.beq_eq_decide_eq]
  exact decide_eq_decide.2 (by omega)

set_option maxHeartbeats 400000 in
theorem l01Fixed_any (b o k : Nat) (g : G) (w : World) (hk : k < 64) (hs : g.Sane) (hg : GAt w b o g) :
    Calls Try.prog 119 #[.pointer (some ⟨b, o, none⟩), .int .i64 k] w fun e w' => e = .returned (.bool (fixB g.fixed k)) ∧ w = w' := by
  have hc := hg.fixed
  obtain ⟨r0, r1⟩ := shr_range k hs.f0 hs.f1
  clear hg hs
  go_enter Try.func119, Try.ntmps119
  go_wp2_with fail
  go_ret
  refine ⟨ret_bool ?_, rfl⟩
  unfold fixB
  rw [Bool.beq_eq_decide_eq]

/-- The sums over the first sides of a cell. -/
def abv (m : M) (k : Nat) : Nat → F
  | 0 => m.g k
  | s + 1 => if 0 ≤ beside m.wide m.high k s then fadd (abv m k s) (fmul (joint (m.c k) (m.c (beside m.wide m.high k s).toNat)) (m.h (beside m.wide m.high k s).toNat)) else abv m k s
def blw (m : M) (k : Nat) : Nat → F
  | 0 => some 0
  | s + 1 => if 0 ≤ beside m.wide m.high k s then fadd (blw m k s) (joint (m.c k) (m.c (beside m.wide m.high k s).toNat)) else blw m k s
def head (m : M) (k : Nat) : F := if fixB m.fixed k || feq (blw m k 4) (some 0) then m.h k else fdiv (abv m k 4) (blw m k 4)

theorem head_fixed {g : G} {k : Nat} (h : fixB g.fixed k = true) : head g.m k = fm g.h k := by
  show (if fixB g.fixed k || _ then _ else _) = _; rw [h]; rfl
theorem head_none {g : G} {k : Nat} (h : feq (blw g.m k 4) (some 0) = true) : head g.m k = fm g.h k := by
  show (if fixB g.fixed k || _ then _ else _) = _; rw [h, Bool.or_true]; rfl
theorem head_free {g : G} {k : Nat} (h : fixB g.fixed k = false) (h' : feq (blw g.m k 4) (some 0) = false) : head g.m k = fdiv (abv g.m k 4) (blw g.m k 4) := by
  show (if fixB g.fixed k || _ then _ else _) = _; rw [h, h']; rfl

theorem abv_yes {m : M} {k s n : Nat} (h : beside m.wide m.high k s = n) : abv m k (s + 1) = fadd (abv m k s) (fmul (joint (m.c k) (m.c n)) (m.h n)) := by
  show (if _ then _ else _) = _; rw [h, if_pos (by omega)]; rfl
theorem blw_yes {m : M} {k s n : Nat} (h : beside m.wide m.high k s = n) : blw m k (s + 1) = fadd (blw m k s) (joint (m.c k) (m.c n)) := by
  show (if _ then _ else _) = _; rw [h, if_pos (by omega)]; rfl
theorem abv_no {m : M} {k s : Nat} (h : beside m.wide m.high k s = -1) : abv m k (s + 1) = abv m k s := by
  show (if _ then _ else _) = _; rw [h, if_neg (by omega)]
theorem blw_no {m : M} {k s : Nat} (h : beside m.wide m.high k s = -1) : blw m k (s + 1) = blw m k s := by
  show (if _ then _ else _) = _; rw [h, if_neg (by omega)]

theorem Is.opl {r a b : Nat} {op : BinOp} {A : F} (h : Is r (fop op (fb a) (fb b))) (ha : Is a A) : Is r (fop op A (fb b)) := by rw [ha.out] at h; exact h
theorem Is.opr {r a b : Nat} {op : BinOp} {B : F} (h : Is r (fop op (fb a) (fb b))) (hb : Is b B) : Is r (fop op (fb a) B) := by rw [hb.out] at h; exact h

def HeadRel (m : M) (k : Nat) (w : World) (v5 v6 v16 : Value) (wr : World) : Prop :=
  ∃ s a c : Nat, s ≤ 4 ∧ v16 = .int .i64 s ∧ v5 = .float .f32 a ∧ v6 = .float .f32 c ∧ Is a (abv m k s) ∧ Is c (blw m k s) ∧ Below w.heap.size w wr

set_option maxRecDepth 100000 in
set_option maxHeartbeats 800000 in
theorem settled_any (b o k : Nat) (g : G) (w : World) (hk : k < 64) (hs : g.Sane) (hg : GAt w b o g) :
    Calls Try.prog 153 #[.pointer (some ⟨b, o, none⟩), .int .i64 k] w (RetF (head g.m k) w) := by
  have c1 := hg.g hk
  have hr := hs.rng
  have hW := hs.hW
  have hH := hs.hH
  have k1 : (k : Int) < 64 := by omega
  have heq := order_eq
  go_enter Try.func153, Try.ntmps153
  go_wp2_with fail
  go_loopw [5, 6, 16] (fun v5 v6 v16 wr => HeadRel g.m k w v5 v6 v16 wr) (fun _ _ v16 _ => 4 - (intOf v16).toNat)
  case atStart => exact ⟨0, g.g k, 0, by omega, rfl, rfl, rfl, (fm_of hk).symm, fb0, Below.refl _ _⟩
  case round =>
    obtain ⟨s, a, c, hs4, rfl, rfl, rfl, ha, hc, hB⟩ := hrel
    have HG := Lib.hid (hg.below hB)
    have HB := Lib.hid hB
    have HA := Lib.hid ha
    have HC := Lib.hid hc
    clear hB hg ha hc
    by_cases hlt : s < 4
    · have hbl := beside_lt g.wide g.high k s hk hW hH
      by_cases hb : 0 ≤ beside g.wide g.high k s
      · obtain ⟨n, hn⟩ : ∃ n : Nat, beside g.wide g.high k s = n := ⟨(beside g.wide g.high k s).toNat, by omega⟩
        have hnl : n < 64 := by omega
        have n1 : (n : Int) < 64 := by omega
        have HN := Lib.hid hn
        clear hbl hb hn
        go_wp2_with (go_at_call 164; refine (beside_any b o k s g _ hk hlt hr HG.out).mono ?_; rw [HN.out]; rintro e w' ⟨rfl, rfl⟩)
        have q1 := fun x => ext_cell wr x (HG.out.c hk)
        have q2 := fun x => ext_cell wr x (HG.out.c hnl)
        refine wp_soft (SF (joint (fb (g.c k)) (fb (g.c n)))) (by kernel_rfl) (by kernel_rfl) ?_
        repeat (first | (refine soft_step (fun K hK => ?_); go_simp; (try go_bits); refine hK _ ?_; clear hK K) | (refine soft_step (fun K hK => ?_); go_simp; refine ⟨_, _, ⟨rfl, rfl⟩, fun x => (JointOf_any _ _ _).mono ?_, ?_⟩; (rintro e w1 ⟨r, he, hr, hb⟩; exact ⟨_, he, ⟨r, rfl, hr⟩, hb⟩); rintro v ⟨r, rfl, hr9⟩; refine hK _ ?_; clear hK K))
        refine soft_nil ?_
        rintro w1 hw1
        have HB1 := Lib.hid (HB.out.trans (hw1.below.mono HB.out.size))
        have HG1 := HG.out.below hw1.below
        have q3 := HG1.h hnl
        clear hw1 q1 q2
        go_wp2_with (((with_reducible refine wpList_gate ?_); refine wpList_arith _ _ rfl rfl rfl ?_; intro r n hr))
        go_roundw
        case rel =>
          rename_i rm nm hm ra na ha'
          refine ⟨s + 1, ra, r, by omega, by go_num, rfl, rfl, ?_, ?_, ?_⟩
          · rw [abv_yes (m := g.m) HN.out]
            show fb ra = fadd (abv g.m k s) (fmul (joint (fm g.c k) (fm g.c _)) (fm g.h _))
            rw [ha'.out, fop, HA.out.out, hm.out, fop, hr9.out, fm_of hk, fm_of hnl, fm_of hnl]
          · rw [blw_yes (m := g.m) HN.out]
            show fb r = fadd (blw g.m k s) (joint (fm g.c k) (fm g.c _))
            rw [hr.out, fop, HC.out.out, hr9.out, fm_of hk, fm_of hnl]
          · exact below_drawn HB1.out _
        case measure => simp [intOf]; omega
      · have hn : beside g.wide g.high k s = -1 := by omega
        have HN := Lib.hid hn
        clear hn hbl hb
        go_wp2_with (go_at_call 164; refine (beside_any b o k s g _ hk hlt hr HG.out).mono ?_; rw [HN.out]; rintro e w' ⟨rfl, rfl⟩)
        go_roundw
        case rel => exact ⟨s + 1, a, c, by omega, by go_num, rfl, rfl, by rw [abv_no (m := g.m) HN.out]; exact HA.out, by rw [blw_no (m := g.m) HN.out]; exact HC.out, HB.out⟩
        case measure => simp [intOf]; omega
    · obtain rfl : s = 4 := by omega
      have q1 := HG.out.h hk
      cases hf : fixB g.fixed k
      · have HF := Lib.hid hf
        clear hf
        cases he : feq (fb c) (fb 0)
        · have HE := Lib.hid he
          go_wp2_with (first | (go_at_call 117; refine (fixed_any b o k g _ hk hs HG.out).mono ?_; rw [HF.out]; rintro e w' ⟨rfl, rfl⟩) | ((with_reducible refine wpList_gate ?_); refine wpList_arith _ _ rfl rfl rfl ?_; intro r n hr))
          go_ret
          refine ⟨_, rfl, ?_, below_drawn HB.out _⟩
          rw [head_free HF.out (by rw [← HC.out.out, ← fb0]; exact HE.out)]
          show fb r = _
          rw [hr.out, fop, HA.out.out, HC.out.out]
        · have HE := Lib.hid he
          go_wp2_with (first | (go_at_call 117; refine (fixed_any b o k g _ hk hs HG.out).mono ?_; rw [HF.out]; rintro e w' ⟨rfl, rfl⟩) | ((with_reducible refine wpList_gate ?_); refine wpList_arith _ _ rfl rfl rfl ?_; intro r n hr))
          go_ret
          refine ⟨_, rfl, ?_, HB.out⟩
          rw [head_none (by rw [← HC.out.out, ← fb0]; exact HE.out)]
          exact (fm_of hk).symm
      · have HF := Lib.hid hf
        clear hf
        go_wp2_with (first | (go_at_call 117; refine (fixed_any b o k g _ hk hs HG.out).mono ?_; rw [HF.out]; rintro e w' ⟨rfl, rfl⟩) | ((with_reducible refine wpList_gate ?_); refine wpList_arith _ _ rfl rfl rfl ?_; intro r n hr))
        go_ret
        refine ⟨_, rfl, ?_, HB.out⟩
        rw [head_fixed HF.out]
        exact (fm_of hk).symm

def HeadRelS (m : M) (k : Nat) (w : World) (v5 v6 v7 : Value) (wr : World) : Prop :=
  ∃ s a c : Nat, s ≤ 4 ∧ v7 = .int .i64 s ∧ v5 = .float .f32 a ∧ v6 = .float .f32 c ∧ Is a (abv m k s) ∧ Is c (blw m k s) ∧ Below w.heap.size w wr

set_option maxRecDepth 100000 in
set_option maxHeartbeats 800000 in
theorem l02Head_any (b o k : Nat) (g : G) (w : World) (hk : k < 64) (hs : g.Sane) (hg : GAt w b o g) :
    Calls Try.prog 155 #[.pointer (some ⟨b, o, none⟩), .int .i64 k] w (RetF (head g.m k) w) := by
  have k1 : (k : Int) < 64 := by omega
  have heq := order_eq
  cases hf : fixB g.fixed k
  · have HF := Lib.hid hf
    have c1 := hg.g hk
    clear hf
    have hr := hs.rng
    have hW := hs.hW
    have hH := hs.hH
    go_enter Try.func155, Try.ntmps155
    go_wp2_with (go_at_call 119; refine (l01Fixed_any b o k g _ hk hs hg).mono ?_; rw [HF.out]; rintro e w' ⟨rfl, rfl⟩)
    go_loopw [5, 6, 7] (fun v5 v6 v7 wr => HeadRelS g.m k w v5 v6 v7 wr) (fun _ _ v7 _ => 4 - (intOf v7).toNat)
    case atStart => exact ⟨0, g.g k, 0, by omega, rfl, rfl, rfl, (fm_of hk).symm, fb0, Below.refl _ _⟩
    case round =>
      obtain ⟨s, a, c, hs4, rfl, rfl, rfl, ha, hc, hB⟩ := hrel
      have HG := Lib.hid (hg.below hB)
      have HB := Lib.hid hB
      have HA := Lib.hid ha
      have HC := Lib.hid hc
      clear hB hg ha hc
      by_cases hlt : s < 4
      · have hbl := beside_lt g.wide g.high k s hk hW hH
        by_cases hb : 0 ≤ beside g.wide g.high k s
        · obtain ⟨n, hn⟩ : ∃ n : Nat, beside g.wide g.high k s = n := ⟨(beside g.wide g.high k s).toNat, by omega⟩
          have hnl : n < 64 := by omega
          have n1 : (n : Int) < 64 := by omega
          have HN := Lib.hid hn
          clear hbl hb hn
          go_wp2_with fail
          refine (l01Between_any b o k s g _ hk hlt hr hW hH HG.out).mono ?_
          rw [HN.out]
          rintro e w1 ⟨rj, rfl, hrj, hb1⟩
          have HB1 := Lib.hid (HB.out.trans (hb1.mono HB.out.size))
          have q3 := (HG.out.below hb1).h hnl
          have HJ : Hid (fb rj = joint (fb (g.c k)) (fb (g.c n))) := by
            have := hrj.out
            unfold between at this
            rw [show beside (G.m g).wide (G.m g).high k s = (n : Int) from HN.out, if_neg (by omega)] at this
            rw [this]
            show joint (fm g.c k) (fm g.c n) = _
            rw [fm_of hk, fm_of hnl]
          clear hb1 hrj
          go_wp2_with (((with_reducible refine wpList_gate ?_); refine wpList_arith _ _ rfl rfl rfl ?_; intro r n hr))
          go_roundw
          case rel =>
            rename_i rm nm hm ra na ha'
            refine ⟨s + 1, ra, r, by omega, by go_num, rfl, rfl, ?_, ?_, ?_⟩
            · rw [abv_yes (m := g.m) HN.out]
              show fb ra = fadd (abv g.m k s) (fmul (joint (fm g.c k) (fm g.c _)) (fm g.h _))
              rw [ha'.out, fop, HA.out.out, hm.out, fop, HJ.out, fm_of hk, fm_of hnl, fm_of hnl]
            · rw [blw_yes (m := g.m) HN.out]
              show fb r = fadd (blw g.m k s) (joint (fm g.c k) (fm g.c _))
              rw [hr.out, fop, HC.out.out, HJ.out, fm_of hk, fm_of hnl]
            · exact below_drawn HB1.out _
          case measure => simp [intOf]; omega
        · have hn : beside g.wide g.high k s = -1 := by omega
          have HN := Lib.hid hn
          clear hn hbl hb
          go_wp2_with fail
          refine (l01Between_any b o k s g _ hk hlt hr hW hH HG.out).mono ?_
          rw [HN.out]
          rintro e w1 ⟨rj, rfl, hrj, hb1⟩
          have HB1 := Lib.hid (HB.out.trans (hb1.mono HB.out.size))
          clear hb1
          go_wp2_with fail
          go_roundw
          case rel => exact ⟨s + 1, a, c, by omega, by go_num, rfl, rfl, by rw [abv_no (m := g.m) HN.out]; exact HA.out, by rw [blw_no (m := g.m) HN.out]; exact HC.out, HB1.out⟩
          case measure => simp [intOf]; omega
      · obtain rfl : s = 4 := by omega
        have q1 := HG.out.h hk
        cases he : feq (fb c) (fb 0)
        · have HE := Lib.hid he
          go_wp2_with (((with_reducible refine wpList_gate ?_); refine wpList_arith _ _ rfl rfl rfl ?_; intro r n hr))
          go_ret
          refine ⟨_, rfl, ?_, below_drawn HB.out _⟩
          rw [head_free HF.out (by rw [← HC.out.out, ← fb0]; exact HE.out)]
          show fb r = _
          rw [hr.out, fop, HA.out.out, HC.out.out]
        · have HE := Lib.hid he
          go_wp2_with (((with_reducible refine wpList_gate ?_); refine wpList_arith _ _ rfl rfl rfl ?_; intro r n hr))
          go_ret
          refine ⟨_, rfl, ?_, HB.out⟩
          rw [head_none (by rw [← HC.out.out, ← fb0]; exact HE.out)]
          exact (fm_of hk).symm
  · have HF := Lib.hid hf
    have q1 := hg.h hk
    clear hf
    go_enter Try.func155, Try.ntmps155
    go_wp2_with (go_at_call 119; refine (l01Fixed_any b o k g _ hk hs hg).mono ?_; rw [HF.out]; rintro e w' ⟨rfl, rfl⟩)
    go_ret
    refine ⟨_, rfl, ?_, Below.refl _ _⟩
    rw [head_fixed HF.out]
    exact (fm_of hk).symm
end Go.Proofs.Ytfcphfdfpjmgiaa
