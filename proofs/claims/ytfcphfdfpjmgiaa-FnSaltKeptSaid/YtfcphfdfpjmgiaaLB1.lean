/- Brines: a step, many steps; what decays. -/
import Derived.Test.YtfcphfdfpjmgiaaBrSmall
import Derived.Test.YtfcphfdfpjmgiaaBrTo
import Derived.Test.YtfcphfdfpjmgiaaTail
import Derived.Test.YtfcphfdfpjmgiaaUpd
namespace Go.Proofs.Ytfcphfdfpjmgiaa
open Go.RowKit

theorem free_nodup (m : M) (k : Nat) : (freeL m k).Nodup := by unfold freeL; exact List.Pairwise.filter _ (cells_nodup _ _ _)

def mvS (n : N) (t : F) (c : Nat) : F := fadd (fmul (n.s c) (fsub (some 1065353216) (partF n c t))) (fdiv (fmul t (inF n c)) n.room)
def mvT (n : N) (t : F) : N := { n with s := updL n.s (mvS n t) (freeL n.g 64) }
def mvR (n : N) (t : F) : N × Int := if smallB n t then (if okB (mvT n t) then (mvT n t, 0) else (B0.n, 4)) else (B0.n, 2)
theorem n_of {x : Br} {s' : Nat → Nat} {f : Nat → F} (h : fm s' = f) : ({ x with s := s' } : Br).n = { x.n with s := f } := by subst h; rfl

/-- A brine and a code are handed back; the brine keeps its ground where the code is 0. -/
def RetBr (r : N × Int) (g : G) (w : World) (e : Ending) (w' : World) : Prop :=
  ∃ y : Br, e = .returned (.tuple #[.agg (arrB y), .int .i64 r.2]) ∧ y.n = r.1 ∧ (r.2 = 0 → y.gr = g) ∧ Below w.heap.size w w'

def UpdRel (x : Br) (d : Nat → F) (f : Nat → List Nat) (most : Nat) (w : World) (O : Nat) (v : Value) (wr : World) : Prop :=
  ∃ (j : Nat) (s' : Nat → Nat), j ≤ most ∧ v = .int .i64 j ∧ fm s' = updL (fm x.s) d (f j) ∧ Blk wr O (arrB { x with s := s' }) 54 ∧ w.grownBy wr (some O)

theorem soft_getB {ops : Array Oper} {S : FuncId → Array Value → Value → Prop} {Q : Act → Prop} {a : Act} {rest : List Oper} {dst : Option Tmp} {ty : TypeId} {X : Operand} {pos : String} {after : Array Edge} {w : World} {B : Nat} {t : TypeId} {g : Br}
    (hg : Blk w B (arrB g) t) (hx : a.eval X = .pointer (some ⟨B, 0, none⟩)) (h : wpSoft Try.prog ops (InExt w) S Q rest (a.put dst (.agg (arrB g)))) :
    wpSoft Try.prog ops (InExt w) S Q (⟨dst, .load 54 X, ty, pos, after, none⟩ :: rest) a :=
  soft_value (.agg (arrB g)) rfl (fun w' hw' => by
    have := loadB (hg.later hw'.below)
    simp only [execOp, hx, Instr.loadAt, Instr.sureAddr]
    simp [this]) h

set_option maxRecDepth 100000 in
set_option maxHeartbeats 3200000 in
theorem moved_any (b t : Nat) (tb : TypeId) (x : Br) (w : World) (hs : x.gr.Sane) (hx : x.gr.Fx) (hX : Blk w b (arrB x) tb) :
    Calls Try.prog 131 #[.pointer (some ⟨b, 0, none⟩), .float .f32 t] w (RetBr (mvR x.n (fb t)) x.gr w) := by
  have hr := hs.rng
  cases hsm : smallB x.n (fb t)
  · have HW : Hid (mvR x.n (fb t) = (B0.n, 2)) := by show _ = _; unfold mvR; rw [hsm]; rfl
    have HSM := Lib.hid hsm
    clear hsm
    go_enter Try.func131, Try.ntmps131
    go_wp2_with (with_reducible refine wpList_new newB ?_)
    intro R wR hR1 hR2 hR3 hR4
    go_wp2_with fail
    refine (small_any b t x wR hs (BAt.of_blk (hX.later hR4))).mono ?_
    rw [HSM.out]
    rintro e w1 ⟨rfl, hb1⟩
    have HR1 := hR3.later hb1
    have HB1 := Lib.hid (hR4.trans (hb1.mono hR4.size))
    clear hR3 hR4 hb1
    go_wp2_with (first | (with_reducible refine wpList_zero (zeroB _) ?_) | ((with_reducible refine wpList_putB (x := B0) HR1 ?_ ?_ ?_); rfl; rfl))
    intro w20 s20 b20 k20
    go_wp2_with fail
    refine ret_cell2 rfl rfl (loadB b20) rfl ⟨B0, by rw [HW.out]; rfl, by rw [HW.out], fun h => absurd h (by rw [HW.out]; decide), ?_⟩
    exact below_grown HB1.out k20 HB1.out.size hR1
  · have HSM := Lib.hid hsm
    have HW0 : Hid (mvR x.n (fb t) = (if okB (mvT x.n (fb t)) then (mvT x.n (fb t), 0) else (B0.n, 4))) := by show _ = _; unfold mvR; rw [hsm]; rfl
    clear hsm
    go_enter Try.func131, Try.ntmps131
    go_wp2_with (with_reducible refine wpList_new newB ?_)
    intro R wR hR1 hR2 hR3 hR4
    have hbw : b < w.heap.size := hX.lt
    have hXR := hX.later hR4
    go_wp2_with fail
    refine (small_any b t x wR hs (BAt.of_blk hXR)).mono ?_
    rw [HSM.out]
    rintro e w1 ⟨rfl, hb1⟩
    have hR1' := hR3.later hb1
    have hX1 := hXR.later hb1
    have HB1 := Lib.hid (hR4.trans (hb1.mono hR4.size))
    have hRl : R < w1.heap.size := hR1'.lt
    clear hR3 hR4 hb1 hX hXR
    go_wp2_with (first | ((with_reducible refine wpList_getB hX1 ?_ ?_); rfl) | (with_reducible refine wpList_new newB ?_))
    intro O wO hO1 hO2 hO3 hO4
    have hRO := hR1'.later hO4
    have hXO := hX1.later hO4
    have hbO : b < O := by have := hX1.lt; omega
    have HBO := Lib.hid (HB1.out.trans (hO4.mono HB1.out.size))
    go_wp2_with ((with_reducible refine wpList_putB (x := x) hO3 ?_ ?_ ?_); rfl; rfl)
    intro w2 s2 b2 k2
    have hX2 := hXO.grown k2 (by omega)
    have hR2' := hRO.grown k2 (by omega)
    have HB2 := Lib.hid (below_grown HBO.out k2 HBO.out.size (by have := HB1.out.size; omega))
    clear hO3 hO4 hRO hXO k2 hX1 hR1'
    go_wp2_with fail
    refine (free_any b 0 x.gr w2 hs (BAt.of_blk hX2).g).mono ?_
    rintro e w3 ⟨v, rfl, hown, hb3⟩
    obtain ⟨aL, cap, rfl, hL⟩ := list_form hown
    have HL := Lib.hid hL
    have HX3 := Lib.hid (BAt.of_blk (hX2.later hb3))
    have HR3 := Lib.hid (hR2'.later hb3)
    have HO3 := Lib.hid (b2.later hb3)
    have HB3 := Lib.hid (HB2.out.trans (hb3.mono HB2.out.size))
    have hlen := freeL_length x.gr.m 64
    have hwO : w.heap.size ≤ O := by have := HB1.out.size; omega
    have hOl : O < w2.heap.size := b2.lt
    clear hL hown hb3 hX2 hR2' b2
    go_wp2_with fail
    go_loopw [23] (fun v23 wr => UpdRel x (mvS x.n (fb t)) (fun j => (freeL x.gr.m 64).take j) (freeL x.gr.m 64).length w3 O v23 wr) (fun v23 _ => (freeL x.gr.m 64).length - (intOf v23).toNat)
    case atStart => exact ⟨0, x.s, by omega, rfl, rfl, HO3.out, grown_refl _ _⟩
    case round =>
      obtain ⟨j, s', hj, rfl, hfs, hO, hgr⟩ := hrel
      have HGR := Lib.hid hgr
      have HFS := Lib.hid hfs
      have HO := Lib.hid hO
      have HX := Lib.hid (HX3.out.grown hgr (by omega))
      clear hgr hfs hO
      by_cases hlt : j < (freeL x.gr.m 64).length
      · obtain ⟨c, hc⟩ : ∃ c, (freeL x.gr.m 64)[j]? = some c := ⟨_, List.getElem?_eq_getElem hlt⟩
        have hc64 : c < 64 := freeL_lt (List.mem_of_getElem? hc)
        have hj64 : j < 64 := by omega
        obtain ⟨gq, rfl, hq1, hq2, hq3⟩ := HL.out j c hc
        have hcell := cell_grown hq3 HGR.out (by omega)
        have HC := Lib.hid hc
        have j1 : (j : Int) < ((freeL x.gr.m 64).length : Int) := by omega
        have c1 : (c : Int) < 64 := by omega
        clear hq3 hc
        go_wp2_with fail
        have q1 := fun zz => ext_cell wr zz HX.out.room
        refine wp_soft (SF (inF x.n c)) (by kernel_rfl) (by kernel_rfl) ?_
        repeat (first | (refine soft_arith (fun _ n h => h.drewN n) _ _ rfl rfl rfl ?_; intro r7 hr7) | (refine soft_step (fun K hK => ?_); go_simp; (try go_bits); refine hK _ ?_; clear hK K) | (refine soft_step (fun K hK => ?_); go_simp; refine ⟨_, _, ⟨rfl, rfl⟩, fun zz => ?_, ?_⟩; ((with_reducible refine (inB_any b c x _ hc64 hs (HX.out.below (ext_below _ zz))).mono ?_); rintro e w1 ⟨r, he, hr, hb⟩; exact ⟨_, he, ⟨r, rfl, hr⟩, hb⟩); rintro v ⟨ri, rfl, hri⟩; refine hK _ ?_; clear hK K))
        rename_i rm hm
        refine soft_nil ?_
        rintro w4 hw4
        have HB4 := Lib.hid hw4.below
        have HX4 := Lib.hid (HX.out.below hw4.below)
        have HO4 := Lib.hid (HO.out.later hw4.below)
        have HC7 : Hid (Is r7 (fdiv (fmul (fb t) (inF x.n c)) (fb x.room))) := by
          show fb r7 = _
          rw [hr7.out, fop, hm.out, fop, hri.out]
        clear hw4 q1 hr7 hm hri
        go_wp2_with fail
        have q2 := fun zz => ext_cell w4 zz (HX4.out.s hc64)
        refine wp_soft_tail 17 (SF (partF x.n c (fb t))) (by kernel_rfl) (by kernel_rfl) ?_
        simp only [List.take_succ_cons, List.take_zero, List.drop_succ_cons, List.drop_zero]
        repeat (first | (refine soft_arith (fun _ n h => h.drewN n) _ _ rfl rfl rfl ?_; intro r8 hr8) | (refine soft_step (fun K hK => ?_); go_simp; (try go_bits); refine hK _ ?_; clear hK K) | (refine soft_step (fun K hK => ?_); go_simp; refine ⟨_, _, ⟨rfl, rfl⟩, fun zz => ?_, ?_⟩; ((with_reducible refine (part_any b c t x _ hc64 hs (HX4.out.below (ext_below _ zz))).mono ?_); rintro e w1 ⟨r, he, hr, hb⟩; exact ⟨_, he, ⟨r, rfl, hr⟩, hb⟩); rintro v ⟨rp, rfl, hrp⟩; refine hK _ ?_; clear hK K))
        rename_i rs hrs rq hrq
        refine soft_nil ?_
        rintro w5 hw5
        have HB5 := Lib.hid hw5.below
        have hO5 := HO4.out.later hw5.below
        have HV : Hid (fb r8 = mvS x.n (fb t) c) := by
          show fb r8 = fadd (fmul (fm x.s c) (fsub (some 1065353216) (partF x.n c (fb t)))) (fdiv (fmul (fb t) (inF x.n c)) (fb x.room))
          rw [hr8.out, fop, hrq.out, fop, hrs.out, fop, hrp.out, HC7.out.out, fm_of hc64, fbOne]
        clear hw5 q2 hr8 hrq hrs hrp
        go_wp2_with ((with_reducible refine wpList_gateS ?_); refine wpList_setS hO5 hc64 rfl rfl ?_)
        intro w6 s6 b6 k6
        have H6 := Lib.hid b6
        have HG6 := Lib.hid ((grown_trans (grown_trans (grown_trans HGR.out (grown_below HB4.out)) (grown_below HB5.out)) k6 : w3.grownBy w6 (some O)))
        clear b6 k6 hO5
        go_wp2_with fail
        go_roundw
        case rel =>
          refine ⟨j + 1, upd s' c r8, by omega, by go_num, ?_, H6.out, HG6.out⟩
          dsimp only
          rw [take_more HC.out, updL_snoc, fm_upd hc64, HFS.out, HV.out]
        case measure => simp [intOf]; omega
      · have hjn : j = (freeL x.gr.m 64).length := by omega
        have j1 : ¬ (j : Int) < ((freeL x.gr.m 64).length : Int) := by omega
        have HN : Hid (({ x with s := s' } : Br).n = mvT x.n (fb t)) := by
          show _ = _
          have := HFS.out
          dsimp only at this
          rw [List.take_of_length_le (Nat.le_of_eq hjn.symm)] at this
          exact n_of this
        have HBw := Lib.hid (below_grown HB3.out HGR.out HB3.out.size hwO)
        have hRw := HR3.out.grown HGR.out (by omega)
        clear hjn
        cases hok : okB (mvT x.n (fb t))
        · have HOK := Lib.hid hok
          have HW : Hid (mvR x.n (fb t) = (B0.n, 4)) := by show _ = _; rw [HW0.out, hok]; rfl
          clear hok
          go_wp2_with ((with_reducible refine wpList_getB HO.out ?_ ?_); rfl)
          refine (ValidBrine_any { x with s := s' } wr hr hx).mono ?_
          rw [HN.out, HOK.out]
          rintro e w7 ⟨rfl, hb7⟩
          have hR7 := hRw.later hb7
          have hO7 := HO.out.later hb7
          have HB7 := Lib.hid (HBw.out.trans (hb7.mono HBw.out.size))
          clear hb7
          go_wp2_with (first | (with_reducible refine wpList_zero (zeroB _) ?_) | ((with_reducible refine wpList_putB (x := B0) hR7 ?_ ?_ ?_); rfl; rfl))
          intro w20 s20 b20 k20
          go_wp2_with fail
          refine ret_cell2 rfl rfl (loadB b20) rfl ⟨B0, by rw [HW.out]; rfl, by rw [HW.out], fun h => absurd h (by rw [HW.out]; decide), ?_⟩
          exact below_grown HB7.out k20 HB7.out.size hR1
        · have HOK := Lib.hid hok
          have HW : Hid (mvR x.n (fb t) = (mvT x.n (fb t), 0)) := by show _ = _; rw [HW0.out, hok]; rfl
          clear hok
          go_wp2_with ((with_reducible refine wpList_getB HO.out ?_ ?_); rfl)
          refine (ValidBrine_any { x with s := s' } wr hr hx).mono ?_
          rw [HN.out, HOK.out]
          rintro e w7 ⟨rfl, hb7⟩
          have hR7 := hRw.later hb7
          have hO7 := HO.out.later hb7
          have HB7 := Lib.hid (HBw.out.trans (hb7.mono HBw.out.size))
          clear hb7
          go_wp2_with (first | ((with_reducible refine wpList_getB hO7 ?_ ?_); rfl) | ((with_reducible refine wpList_putB (x := { x with s := s' }) hR7 ?_ ?_ ?_); rfl; rfl))
          intro w20 s20 b20 k20
          go_wp2_with fail
          refine ret_cell2 rfl rfl (loadB b20) rfl ⟨{ x with s := s' }, by rw [HW.out]; rfl, by rw [HW.out]; exact HN.out, fun _ => rfl, ?_⟩
          exact below_grown HB7.out k20 HB7.out.size hR1

/-- A brine and whether it is valid. -/
def RetBk (n : N) (g : G) (w : World) (e : Ending) (w' : World) : Prop :=
  ∃ y : Br, e = .returned (.tuple #[.agg (arrB y), .bool (okB n)]) ∧ y.n = n ∧ y.gr = g ∧ Below w.heap.size w w'

set_option maxRecDepth 100000 in
set_option maxHeartbeats 3200000 in
theorem l05Move_any (b t : Nat) (tb : TypeId) (x : Br) (w : World) (hs : x.gr.Sane) (hx : x.gr.Fx) (hX : Blk w b (arrB x) tb) :
    Calls Try.prog 187 #[.pointer (some ⟨b, 0, none⟩), .float .f32 t] w (RetBk (mvT x.n (fb t)) x.gr w) := by
  have hr := hs.rng
  go_enter Try.func187, Try.ntmps187
  go_wp2_with (with_reducible refine wpList_new newB ?_)
  intro R wR hR1 hR2 hR3 hR4
  have hbw : b < w.heap.size := hX.lt
  have hX1 := hX.later hR4
  go_wp2_with (first | ((with_reducible refine wpList_getB hX1 ?_ ?_); rfl) | (with_reducible refine wpList_new newB ?_))
  intro O wO hO1 hO2 hO3 hO4
  have hRO := hR3.later hO4
  have hXO := hX1.later hO4
  have hbO : b < O := by have := hX1.lt; omega
  have HBO := Lib.hid (hR4.trans (hO4.mono hR4.size))
  have hwO : w.heap.size ≤ O := by have := hR4.size; omega
  go_wp2_with ((with_reducible refine wpList_putB (x := x) hO3 ?_ ?_ ?_); rfl; rfl)
  intro w3 s2 b2 k2
  have HX3 := Lib.hid (BAt.of_blk (hXO.grown k2 (by omega)))
  have HR3 := Lib.hid (hRO.grown k2 (by omega))
  have HO3 := Lib.hid b2
  have HB3 := Lib.hid (below_grown HBO.out k2 HBO.out.size (by omega))
  have hOl : O < w3.heap.size := b2.lt
  clear hO3 hO4 hRO hXO k2 hX1 hR3 hR4 hX b2
  go_wp2_with fail
  go_loopw [7] (fun v7 wr => UpdRel x (mvS x.n (fb t)) (fun j => freeL x.n.g j) 64 w3 O v7 wr) (fun v7 _ => 64 - (intOf v7).toNat)
  case atStart => exact ⟨0, x.s, by omega, rfl, rfl, HO3.out, grown_refl _ _⟩
  case round =>
    obtain ⟨k, s', hk, rfl, hfs, hO, hgr⟩ := hrel
    have HGR := Lib.hid hgr
    have HFS := Lib.hid hfs
    have HO := Lib.hid hO
    have HX := Lib.hid (HX3.out.grown hgr (by omega))
    clear hgr hfs hO
    by_cases hlt : k < 64
    · cases hh : hasB x.gr.wide x.gr.high k
      · have HH := Lib.hid hh
        have HF : Hid (fixB x.gr.fixed k = fixB x.gr.fixed k) := rfl
        clear hh
        go_wp2_with (go_at_call 124; refine (l05Free_any b k x _ hlt hs HX.out).mono ?_; rw [HH.out, HF.out]; rintro e w' ⟨rfl, rfl⟩)
        go_roundw
        case rel => exact ⟨k + 1, s', by omega, by go_num, by dsimp only; rw [freeL_no (m := x.n.g) HH.out]; exact HFS.out, HO.out, HGR.out⟩
        case measure => simp [intOf]; omega
      · have HH := Lib.hid hh
        clear hh
        cases hf : fixB x.gr.fixed k
        rotate_left
        · have HF := Lib.hid hf
          clear hf
          go_wp2_with (go_at_call 124; refine (l05Free_any b k x _ hlt hs HX.out).mono ?_; rw [HH.out, HF.out]; rintro e w' ⟨rfl, rfl⟩)
          go_roundw
          case rel => exact ⟨k + 1, s', by omega, by go_num, by dsimp only; rw [freeL_fix (m := x.n.g) HH.out HF.out]; exact HFS.out, HO.out, HGR.out⟩
          case measure => simp [intOf]; omega
        · have HF := Lib.hid hf
          have k1 : (k : Int) < 64 := by omega
          clear hf
          go_wp2_with (go_at_call 124; refine (l05Free_any b k x _ hlt hs HX.out).mono ?_; rw [HH.out, HF.out]; rintro e w' ⟨rfl, rfl⟩)
          refine (l05Part_any b k t x wr hlt hs HX.out).mono ?_
          rintro e w9 ⟨rp, rfl, hrp, hb9⟩
          have HRP := Lib.hid hrp
          have HG9 := Lib.hid (grown_trans HGR.out (grown_below hb9))
          have HX9 := Lib.hid (HX.out.below hb9)
          have HO9 := Lib.hid (HO.out.later hb9)
          clear hrp hb9 HX HO HGR
          go_wp2_with fail
          have q1 := fun zz => ext_cell w9 zz HX9.out.room
          refine wp_soft (SF (inF x.n k)) (by kernel_rfl) (by kernel_rfl) ?_
          repeat (first | (refine soft_arith (fun _ n h => h.drewN n) _ _ rfl rfl rfl ?_; intro r7 hr7) | (refine soft_step (fun K hK => ?_); go_simp; (try go_bits); refine hK _ ?_; clear hK K) | (refine soft_step (fun K hK => ?_); go_simp; refine ⟨_, _, ⟨rfl, rfl⟩, fun zz => ?_, ?_⟩; ((with_reducible refine (l05In_any b k x _ hlt hs (HX9.out.below (ext_below _ zz))).mono ?_); rintro e w1 ⟨r, he, hr, hb⟩; exact ⟨_, he, ⟨r, rfl, hr⟩, hb⟩); rintro v ⟨ri, rfl, hri⟩; refine hK _ ?_; clear hK K))
          rename_i rm hm
          refine soft_nil ?_
          rintro w4 hw4
          have HB4 := Lib.hid hw4.below
          have HX4 := Lib.hid (HX9.out.below hw4.below)
          have HO4 := Lib.hid (HO9.out.later hw4.below)
          have HC7 : Hid (Is r7 (fdiv (fmul (fb t) (inF x.n k)) (fb x.room))) := by
            show fb r7 = _
            rw [hr7.out, fop, hm.out, fop, hri.out]
          clear hw4 q1 hr7 hm hri
          have q2 := HX4.out.s hlt
          go_wp2_with (first | ((with_reducible refine wpList_gate ?_); refine wpList_arith _ _ rfl rfl rfl ?_; intro r n hr_) | ((with_reducible refine wpList_gateS ?_); refine wpList_setS (HO4.out.drewN _) hlt rfl rfl ?_))
          rename_i rs ns hrs rq nq hrq
          intro w6 s6 b6 k6
          have H6 := Lib.hid b6
          have HG6 := Lib.hid ((grown_trans (grown_trans (grown_trans HG9.out (grown_below HB4.out)) (grown_drewN _ _ _)) k6 : w3.grownBy w6 (some O)))
          have HV : Hid (fb r = mvS x.n (fb t) k) := by
            show fb r = fadd (fmul (fm x.s k) (fsub (some 1065353216) (partF x.n k (fb t)))) (fdiv (fmul (fb t) (inF x.n k)) (fb x.room))
            rw [hr_.out, fop, hrq.out, fop, hrs.out, fop, HRP.out.out, HC7.out.out, fm_of hlt, fbOne]
          clear b6 k6 q2
          go_wp2_with fail
          go_roundw
          case rel =>
            refine ⟨k + 1, upd s' k r, by omega, by go_num, ?_, H6.out, HG6.out⟩
            dsimp only
            rw [freeL_yes (m := x.n.g) HH.out HF.out, updL_snoc, fm_upd hlt, HFS.out, HV.out]
          case measure => simp [intOf]; omega
    · obtain rfl : k = 64 := by omega
      have HN : Hid (({ x with s := s' } : Br).n = mvT x.n (fb t)) := n_of HFS.out
      have HBw := Lib.hid (below_grown HB3.out HGR.out HB3.out.size hwO)
      have HRw := Lib.hid (HR3.out.grown HGR.out (by omega))
      obtain ⟨q, hq⟩ : ∃ q, okB (mvT x.n (fb t)) = q := ⟨_, rfl⟩
      have HQ := Lib.hid hq
      clear hq
      go_wp2_with fail
      refine wp_soft_tail 2 (SV (.bool q)) (by kernel_rfl) (by kernel_rfl) ?_
      simp only [List.take_succ_cons, List.take_zero, List.drop_succ_cons, List.drop_zero]
      repeat (first | ((with_reducible refine soft_getB HO.out ?_ ?_); rfl) | (refine soft_step (fun K hK => ?_); go_simp; refine ⟨_, _, ⟨rfl, rfl⟩, fun zz => ?_, ?_⟩; ((with_reducible refine (l05Ok_any O { x with s := s' } _ hr hx ((BAt.of_blk HO.out).below (ext_below _ zz))).mono ?_); rintro e w1 ⟨he, hb⟩; exact ⟨_, he.trans (ret_bool (by rw [HN.out]; exact HQ.out)), rfl, hb⟩); rintro v rfl; refine hK _ ?_; clear hK K))
      refine soft_nil ?_
      rintro w7 hw7
      have hR7 := HRw.out.later hw7.below
      have HB7 := Lib.hid (HBw.out.trans (hw7.below.mono HBw.out.size))
      clear hw7
      go_wp2_with ((with_reducible refine wpList_putB (x := { x with s := s' }) hR7 ?_ ?_ ?_); rfl; rfl)
      intro w20 s20 b20 k20
      go_wp2_with fail
      refine ret_cell2 rfl rfl (loadB b20) rfl ⟨{ x with s := s' }, by rw [HQ.out]; rfl, HN.out, rfl, ?_⟩
      exact below_grown HB7.out k20 HB7.out.size hR1
end Go.Proofs.Ytfcphfdfpjmgiaa

namespace Go.Proofs.Ytfcphfdfpjmgiaa
open Go.RowKit

/-- The brine behind so many steps, if all on the way are valid. -/
def mvRun (n : N) (t : F) : Nat → Option N
  | 0 => some n
  | k + 1 => match mvRun n t k with
    | none => none
    | some m => if okB (mvT m t) then some (mvT m t) else none
theorem mvRun_yes {n m : N} {t : F} {k : Nat} (h : mvRun n t k = some m) (ho : okB (mvT m t) = true) : mvRun n t (k + 1) = some (mvT m t) := by
  show (match mvRun n t k with | none => none | some m => if okB (mvT m t) then some (mvT m t) else none) = _
  rw [h]; show (if _ then _ else _) = _; rw [ho]; rfl
theorem mvRun_no {n m : N} {t : F} {k : Nat} (h : mvRun n t k = some m) (ho : okB (mvT m t) = false) : mvRun n t (k + 1) = none := by
  show (match mvRun n t k with | none => none | some m => if okB (mvT m t) then some (mvT m t) else none) = _
  rw [h]; show (if _ then _ else _) = _; rw [ho]; rfl
theorem mvRun_none {n : N} {t : F} {k : Nat} (h : mvRun n t k = none) : ∀ j, k ≤ j → mvRun n t j = none := by
  intro j hj
  induction j with
  | zero => have : k = 0 := by omega
            subst this; exact h
  | succ j ih =>
    by_cases e : k = j + 1
    · subst e; exact h
    · show (match mvRun n t j with | none => none | some m => if okB (mvT m t) then some (mvT m t) else none) = _
      rw [ih (by omega)]
theorem mvRun_same {n : N} {t : F} : ∀ {k : Nat} {m : N}, mvRun n t k = some m → m.g = n.g ∧ m.room = n.room
  | 0, m, h => by cases h; exact ⟨rfl, rfl⟩
  | k + 1, m, h => by
    cases hk : mvRun n t k with
    | none => rw [mvRun_none hk (k + 1) (by omega)] at h; cases h
    | some q =>
      obtain ⟨h1, h2⟩ := mvRun_same hk
      cases ho : okB (mvT q t)
      · rw [mvRun_no hk ho] at h; cases h
      · rw [mvRun_yes hk ho] at h; cases h
        exact ⟨h1, h2⟩
theorem smallB_same {n m : N} {t : F} (hg : m.g = n.g) (hr : m.room = n.room) : smallB m t = smallB n t := by
  unfold smallB smallTo partF
  rw [hg, hr]
def timesR (n : N) (t : F) (z : Int) : N × Int :=
  if okB n then (if decide (0 ≤ z) && decide (z ≤ 1000) && smallB n t then (match mvRun n t z.toNat with | none => (B0.n, 4) | some m => (m, 0)) else (B0.n, 2)) else (B0.n, 1)
def stepR (n : N) (t : F) : N × Int := if okB n then mvR n t else (B0.n, 1)
theorem times_one (n : N) (t : F) : timesR n t 1 = stepR n t := by
  unfold timesR stepR mvR
  cases okB n
  · rfl
  · cases smallB n t
    · rfl
    · simp only [show (decide ((0 : Int) ≤ 1) && decide ((1 : Int) ≤ 1000) && true) = true from by decide, if_true, show Int.toNat 1 = 1 from rfl]
      cases ho : okB (mvT n t)
      · rw [mvRun_no (k := 0) rfl ho]; rfl
      · rw [mvRun_yes (k := 0) rfl ho]; rfl

/-- A brine and a code are handed back. -/
def RetBC' (r : N × Int) (w : World) (e : Ending) (w' : World) : Prop :=
  ∃ y : Br, e = .returned (.tuple #[.agg (arrB y), .int .i64 r.2]) ∧ y.n = r.1 ∧ Below w.heap.size w w'

/-- The brine so far lies in a block. -/
def RunRel (x : Br) (t : F) (most : Int) (w : World) (O : Nat) (v : Value) (wr : World) : Prop :=
  ∃ (k : Nat) (y : Br), (k : Int) ≤ most ∧ v = .int .i64 k ∧ mvRun x.n t k = some y.n ∧ y.gr = x.gr ∧ Blk wr O (arrB y) 54 ∧ w.grownBy wr (some O) ∧ w.heap.size ≤ wr.heap.size

/-- What grows in a block that is newer than the world at the start is new memory. -/
theorem grown_new {w w' w'' : World} {o q : Nat} (h : w.grownBy w' (some o)) (h' : w'.grownBy w'' (some q)) (hq : w.heap.size ≤ q) : w.grownBy w'' (some o) :=
  ⟨h'.os.trans h.os, h'.tape.trans h.tape, h'.output.trans h.output, Nat.le_trans h.size h'.size, fun k hk hne => (h'.block k (Nat.lt_of_lt_of_le hk h.size) (by simp; omega)).trans (h.block k hk hne)⟩

set_option maxHeartbeats 400000 in
theorem isTimes_any (z : Int) (w : World) : Calls Try.prog 134 #[.int .i64 z] w fun e w' => e = .returned (.bool (decide (0 ≤ z) && decide (z ≤ 1000))) ∧ w = w' := by
  go_enter Try.func134, Try.ntmps134
  go_wp2_with (go_at_call 103; refine (in_any z 0 1000 _).mono ?_; rintro e w' ⟨rfl, rfl⟩)
  go_ret
  exact ⟨rfl, rfl⟩

set_option maxRecDepth 100000 in
set_option maxHeartbeats 3200000 in
theorem MoveTimes_any (x : Br) (t : Nat) (z : Int) (w : World) (hr : x.gr.Rng) (hx : x.gr.Fx) :
    Calls Try.prog 39 #[.agg (arrB x), .float .f32 t, .int .i64 z] w (RetBC' (timesR x.n (fb t) z) w) := by
  cases hok : okB x.n
  · have HW : Hid (timesR x.n (fb t) z = (B0.n, 1)) := by show _ = _; unfold timesR; rw [hok]; rfl
    have HOK := Lib.hid hok
    clear hok
    go_enter Try.func39, Try.ntmps39
    go_wp2_with (with_reducible refine wpList_box rfl ?_)
    intro b w1 hB1 hB2 hB3 hB4
    go_wp2_with (with_reducible refine wpList_new newB ?_)
    intro R w2 hR1 hR2 hR3 hR4
    have hX2 := hB3.later hR4
    have hbR : b < R := by have := hB4.size; omega
    have HB2 := Lib.hid (hB4.trans (hR4.mono hB4.size))
    have hwR : w.heap.size ≤ R := by have := hB4.size; omega
    clear hB3 hB4 hR4
    go_wp2_with ((with_reducible refine wpList_getB hX2 ?_ ?_); rfl)
    refine (ValidBrine_any x w2 hr hx).mono ?_
    rw [HOK.out]
    rintro e w3 ⟨rfl, hb3⟩
    have hX3 := hX2.later hb3
    have hR3' := hR3.later hb3
    have HB3 := Lib.hid (HB2.out.trans (hb3.mono HB2.out.size))
    clear hb3 hX2 hR3
    go_wp2_with (first | (with_reducible refine wpList_zero (zeroB _) ?_) | ((with_reducible refine wpList_putB (x := B0) hR3' ?_ ?_ ?_); rfl; rfl))
    intro w20 s20 b20 k20
    go_wp2_with fail
    refine ret_cell2 rfl rfl (loadB b20) rfl ⟨B0, by rw [HW.out]; rfl, by rw [HW.out], ?_⟩
    exact below_grown HB3.out k20 HB3.out.size hwR
  have hs := sane_of (okB_g hok) hx
  cases hz : decide (0 ≤ z) && decide (z ≤ 1000)
  · have HW : Hid (timesR x.n (fb t) z = (B0.n, 2)) := by show _ = _; unfold timesR; rw [hok, hz]; rfl
    have HOK := Lib.hid hok
    have HZ : Hid ((decide (0 ≤ z) && decide (z ≤ 1000)) = false) := hz
    clear hok hz
    go_enter Try.func39, Try.ntmps39
    go_wp2_with (with_reducible refine wpList_box rfl ?_)
    intro b w1 hB1 hB2 hB3 hB4
    go_wp2_with (with_reducible refine wpList_new newB ?_)
    intro R w2 hR1 hR2 hR3 hR4
    have hX2 := hB3.later hR4
    have hbR : b < R := by have := hB4.size; omega
    have HB2 := Lib.hid (hB4.trans (hR4.mono hB4.size))
    have hwR : w.heap.size ≤ R := by have := hB4.size; omega
    clear hB3 hB4 hR4
    go_wp2_with ((with_reducible refine wpList_getB hX2 ?_ ?_); rfl)
    refine (ValidBrine_any x w2 hr hx).mono ?_
    rw [HOK.out]
    rintro e w3 ⟨rfl, hb3⟩
    have hX3 := hX2.later hb3
    have hR3' := hR3.later hb3
    have HB3 := Lib.hid (HB2.out.trans (hb3.mono HB2.out.size))
    clear hb3 hX2 hR3
    go_wp2_with (first | (go_at_call 134; refine (isTimes_any z _).mono ?_; rw [HZ.out]; rintro e w' ⟨rfl, rfl⟩) | (with_reducible refine wpList_zero (zeroB _) ?_) | ((with_reducible refine wpList_putB (x := B0) hR3' ?_ ?_ ?_); rfl; rfl))
    intro w20 s20 b20 k20
    go_wp2_with fail
    refine ret_cell2 rfl rfl (loadB b20) rfl ⟨B0, by rw [HW.out]; rfl, by rw [HW.out], ?_⟩
    exact below_grown HB3.out k20 HB3.out.size hwR
  cases hsm : smallB x.n (fb t)
  · have HW : Hid (timesR x.n (fb t) z = (B0.n, 2)) := by show _ = _; unfold timesR; rw [hok, hz, hsm]; rfl
    have HOK := Lib.hid hok
    have HSM := Lib.hid hsm
    have HZ : Hid ((decide (0 ≤ z) && decide (z ≤ 1000)) = true) := hz
    clear hok hz hsm
    go_enter Try.func39, Try.ntmps39
    go_wp2_with (with_reducible refine wpList_box rfl ?_)
    intro b w1 hB1 hB2 hB3 hB4
    go_wp2_with (with_reducible refine wpList_new newB ?_)
    intro R w2 hR1 hR2 hR3 hR4
    have hX2 := hB3.later hR4
    have hbR : b < R := by have := hB4.size; omega
    have HB2 := Lib.hid (hB4.trans (hR4.mono hB4.size))
    have hwR : w.heap.size ≤ R := by have := hB4.size; omega
    clear hB3 hB4 hR4
    go_wp2_with ((with_reducible refine wpList_getB hX2 ?_ ?_); rfl)
    refine (ValidBrine_any x w2 hr hx).mono ?_
    rw [HOK.out]
    rintro e w3 ⟨rfl, hb3⟩
    have hX3 := hX2.later hb3
    have hR3' := hR3.later hb3
    have HB3 := Lib.hid (HB2.out.trans (hb3.mono HB2.out.size))
    clear hb3 hX2 hR3
    go_wp2_with (go_at_call 134; refine (isTimes_any z _).mono ?_; rw [HZ.out]; rintro e w' ⟨rfl, rfl⟩)
    refine (small_any b t x w3 hs (BAt.of_blk hX3)).mono ?_
    rw [HSM.out]
    rintro e w4 ⟨rfl, hb4⟩
    have hX4 := hX3.later hb4
    have hR4 := hR3'.later hb4
    have HB4 := Lib.hid (HB3.out.trans (hb4.mono HB3.out.size))
    clear hb4 hX3 hR3'
    go_wp2_with (first | (with_reducible refine wpList_zero (zeroB _) ?_) | ((with_reducible refine wpList_putB (x := B0) hR4 ?_ ?_ ?_); rfl; rfl))
    intro w20 s20 b20 k20
    go_wp2_with fail
    refine ret_cell2 rfl rfl (loadB b20) rfl ⟨B0, by rw [HW.out]; rfl, by rw [HW.out], ?_⟩
    exact below_grown HB4.out k20 HB4.out.size hwR
  have HW0 : Hid (timesR x.n (fb t) z = (match mvRun x.n (fb t) z.toNat with | none => (B0.n, 4) | some m => (m, 0))) := by show _ = _; unfold timesR; rw [hok, hz, hsm]; rfl
  have hz2 := hz
  rw [Bool.and_eq_true] at hz2
  have z0 : 0 ≤ z := of_decide_eq_true hz2.1
  have z1 : z ≤ 1000 := of_decide_eq_true hz2.2
  have HOK := Lib.hid hok
  have HSM := Lib.hid hsm
  have HZ : Hid ((decide (0 ≤ z) && decide (z ≤ 1000)) = true) := hz
  clear hok hz hsm hz2
  go_enter Try.func39, Try.ntmps39
  go_wp2_with (with_reducible refine wpList_box rfl ?_)
  intro b w1 hB1 hB2 hB3 hB4
  go_wp2_with (with_reducible refine wpList_new newB ?_)
  intro R w2 hR1 hR2 hR3 hR4
  have hX2 := hB3.later hR4
  have hbR : b < R := by have := hB4.size; omega
  have HB2 := Lib.hid (hB4.trans (hR4.mono hB4.size))
  have hwR : w.heap.size ≤ R := by have := hB4.size; omega
  clear hB3 hB4 hR4
  go_wp2_with ((with_reducible refine wpList_getB hX2 ?_ ?_); rfl)
  refine (ValidBrine_any x w2 hr hx).mono ?_
  rw [HOK.out]
  rintro e w3 ⟨rfl, hb3⟩
  have hX3 := hX2.later hb3
  have hR3' := hR3.later hb3
  have HB3 := Lib.hid (HB2.out.trans (hb3.mono HB2.out.size))
  clear hb3 hX2 hR3
  go_wp2_with (go_at_call 134; refine (isTimes_any z _).mono ?_; rw [HZ.out]; rintro e w' ⟨rfl, rfl⟩)
  refine (small_any b t x w3 hs (BAt.of_blk hX3)).mono ?_
  rw [HSM.out]
  rintro e w4 ⟨rfl, hb4⟩
  have hX4 := hX3.later hb4
  have hR4 := hR3'.later hb4
  have HB4 := Lib.hid (HB3.out.trans (hb4.mono HB3.out.size))
  clear hb4 hX3 hR3'
  have HR4 := Lib.hid hR4
  have HX4 := Lib.hid hX4
  have hRl : R < w4.heap.size := hR4.lt
  have hbl : b < w4.heap.size := hX4.lt
  clear hR4 hX4
  go_wp2_with fail
  go_loopw [26] (fun v26 wr => RunRel x (fb t) z w4 b v26 wr) (fun v26 _ => z.toNat - (intOf v26).toNat)
  case atStart => exact ⟨0, x, by omega, rfl, rfl, rfl, HX4.out, grown_refl _ _, Nat.le_refl _⟩
  case round =>
    obtain ⟨k, y, hk, rfl, hrun, hgr, hY, hgrow, hsz⟩ := hrel
    have HRUN := Lib.hid hrun
    have HG := Lib.hid hgrow
    have HY := Lib.hid hY
    have HGR := Lib.hid hgr
    have hsy : y.gr.Sane := by rw [hgr]; exact hs
    have hxy : y.gr.Fx := by rw [hgr]; exact hx
    have HR := Lib.hid (HR4.out.grown hgrow (by omega))
    have HSMY : Hid (smallB y.n (fb t) = true) := by
      show _ = _
      rw [smallB_same (mvRun_same hrun).1 (mvRun_same hrun).2]; exact HSM.out
    clear hrun hgrow hY hgr
    by_cases hlt : (k : Int) < z
    · cases hok : okB (mvT y.n (fb t))
      · have HMV : Hid (mvR y.n (fb t) = (B0.n, 4)) := by show _ = _; unfold mvR; rw [HSMY.out, hok]; rfl
        have HRN := Lib.hid (mvRun_no HRUN.out hok)
        clear hok
        go_wp2_with fail
        refine (moved_any b t _ y wr hsy hxy HY.out).mono ?_
        rw [HMV.out]
        rintro e w5 ⟨y', rfl, hn', hg', hb5⟩
        have HN' := Lib.hid hn'
        have HG5 := Lib.hid (grown_trans HG.out (grown_below hb5))
        have hY5 := HY.out.later hb5
        have hR5 := HR.out.later hb5
        have hs5 := hb5.size
        have hb5' := hb5
        clear hn' hb5
        go_wp2_with (with_reducible refine wpList_new newB ?_)
        intro Q w6 hQ1 hQ2 hQ3 hQ4
        have hY6 := hY5.later hQ4
        have hR6 := hR5.later hQ4
        have HG6 := Lib.hid (grown_trans HG5.out (grown_below hQ4))
        go_wp2_with ((with_reducible refine wpList_putB (x := y') hQ3 ?_ ?_ ?_); rfl; rfl)
        intro w7 s7 b7 k7
        have hYQ : b < Q := by have := hY5.lt; omega
        have hRQ : R < Q := by have := hR5.lt; omega
        have hY7 := hY6.grown k7 (by omega)
        have hR7 := hR6.grown k7 (by omega)
        have hQ4s := hQ4.size
        have HG7 : Hid (w4.grownBy w7 (some b)) := grown_new HG6.out k7 (by omega)
        clear hQ3 hQ4 hY5 hR5 hY6 hR6 k7
        have HW : Hid (timesR x.n (fb t) z = (B0.n, 4)) := by
          show _ = _
          rw [HW0.out, mvRun_none HRN.out z.toNat (by omega)]
        have HB7 := Lib.hid (below_grown HB4.out HG7.out HB4.out.size hB1)
        clear hb5' hg'
        go_wp2_with (first | (with_reducible refine wpList_zero (zeroB _) ?_) | ((with_reducible refine wpList_putB (x := B0) hR7 ?_ ?_ ?_); rfl; rfl))
        intro w20 s20 b20 k20
        go_wp2_with fail
        refine ret_cell2 rfl rfl (loadB b20) rfl ⟨B0, by rw [HW.out]; rfl, by rw [HW.out], ?_⟩
        exact below_grown HB7.out k20 HB7.out.size hwR
      · have HMV : Hid (mvR y.n (fb t) = (mvT y.n (fb t), 0)) := by show _ = _; unfold mvR; rw [HSMY.out, hok]; rfl
        have HRN := Lib.hid (mvRun_yes HRUN.out hok)
        clear hok
        go_wp2_with fail
        refine (moved_any b t _ y wr hsy hxy HY.out).mono ?_
        rw [HMV.out]
        rintro e w5 ⟨y', rfl, hn', hg', hb5⟩
        have HN' := Lib.hid hn'
        have HG5 := Lib.hid (grown_trans HG.out (grown_below hb5))
        have hY5 := HY.out.later hb5
        have hR5 := HR.out.later hb5
        have hs5 := hb5.size
        have hb5' := hb5
        clear hn' hb5
        go_wp2_with (with_reducible refine wpList_new newB ?_)
        intro Q w6 hQ1 hQ2 hQ3 hQ4
        have hY6 := hY5.later hQ4
        have hR6 := hR5.later hQ4
        have HG6 := Lib.hid (grown_trans HG5.out (grown_below hQ4))
        go_wp2_with ((with_reducible refine wpList_putB (x := y') hQ3 ?_ ?_ ?_); rfl; rfl)
        intro w7 s7 b7 k7
        have hYQ : b < Q := by have := hY5.lt; omega
        have hRQ : R < Q := by have := hR5.lt; omega
        have hY7 := hY6.grown k7 (by omega)
        have hR7 := hR6.grown k7 (by omega)
        have hQ4s := hQ4.size
        have HG7 : Hid (w4.grownBy w7 (some b)) := grown_new HG6.out k7 (by omega)
        clear hQ3 hQ4 hY5 hR5 hY6 hR6 k7
        go_wp2_with (first | ((with_reducible refine wpList_getB b7 ?_ ?_); rfl) | ((with_reducible refine wpList_putB (x := y') hY7 ?_ ?_ ?_); rfl; rfl))
        intro w8 s8 b8 k8
        have H8 := Lib.hid b8
        have HG8 := Lib.hid (grown_trans HG7.out k8)
        have hg2 : y'.gr = x.gr := (hg' (by trivial)).trans HGR.out
        clear hb5' hg' b8 k8 b7 hY7 hR7
        go_wp2_with fail
        go_roundw
        case rel => exact ⟨k + 1, y', by omega, by go_num, by rw [HRN.out, HN'.out], hg2, H8.out, HG8.out, by omega⟩
        case measure => simp [intOf]; omega
    · obtain rfl : z = k := by omega
      have HW : Hid (timesR x.n (fb t) k = (y.n, 0)) := by
        show _ = _
        rw [HW0.out, show ((k : Nat) : Int).toNat = k from Int.toNat_natCast k, HRUN.out]
      have HBw := Lib.hid (below_grown HB4.out HG.out HB4.out.size hB1)
      have hRw := HR.out
      go_wp2_with (first | ((with_reducible refine wpList_getB HY.out ?_ ?_); rfl) | ((with_reducible refine wpList_putB (x := y) hRw ?_ ?_ ?_); rfl; rfl))
      intro w20 s20 b20 k20
      go_wp2_with fail
      refine ret_cell2 rfl rfl (loadB b20) rfl ⟨y, by rw [HW.out]; rfl, by rw [HW.out], ?_⟩
      exact below_grown HBw.out k20 HBw.out.size hwR

set_option maxRecDepth 100000 in
set_option maxHeartbeats 3200000 in
theorem specMoveTimes_any (x : Br) (t : Nat) (z : Int) (w : World) (hr : x.gr.Rng) (hx : x.gr.Fx) :
    Calls Try.prog 132 #[.agg (arrB x), .float .f32 t, .int .i64 z] w (RetBC' (timesR x.n (fb t) z) w) := by
  cases hok : okB x.n
  · have HW : Hid (timesR x.n (fb t) z = (B0.n, 1)) := by show _ = _; unfold timesR; rw [hok]; rfl
    have HOK := Lib.hid hok
    clear hok
    go_enter Try.func132, Try.ntmps132
    go_wp2_with (with_reducible refine wpList_box rfl ?_)
    intro b w1 hB1 hB2 hB3 hB4
    go_wp2_with (with_reducible refine wpList_new newB ?_)
    intro R w2 hR1 hR2 hR3 hR4
    have hX2 := hB3.later hR4
    have hbR : b < R := by have := hB4.size; omega
    have HB2 := Lib.hid (hB4.trans (hR4.mono hB4.size))
    have hwR : w.heap.size ≤ R := by have := hB4.size; omega
    clear hB3 hB4 hR4
    go_wp2_with fail
    refine (l05Ok_any b x w2 hr hx (BAt.of_blk hX2)).mono ?_
    rw [HOK.out]
    rintro e w3 ⟨rfl, hb3⟩
    have hX3 := hX2.later hb3
    have hR3' := hR3.later hb3
    have HB3 := Lib.hid (HB2.out.trans (hb3.mono HB2.out.size))
    clear hb3 hX2 hR3
    go_wp2_with (first | (with_reducible refine wpList_zero (zeroB _) ?_) | ((with_reducible refine wpList_putB (x := B0) hR3' ?_ ?_ ?_); rfl; rfl))
    intro w20 s20 b20 k20
    go_wp2_with fail
    refine ret_cell2 rfl rfl (loadB b20) rfl ⟨B0, by rw [HW.out]; rfl, by rw [HW.out], ?_⟩
    exact below_grown HB3.out k20 HB3.out.size hwR
  have hs := sane_of (okB_g hok) hx
  cases hz : decide (0 ≤ z) && decide (z ≤ 1000)
  · have HW : Hid (timesR x.n (fb t) z = (B0.n, 2)) := by show _ = _; unfold timesR; rw [hok, hz]; rfl
    have HOK := Lib.hid hok
    have HZ : Hid ((decide (0 ≤ z) && decide (z ≤ 1000)) = false) := hz
    clear hok hz
    go_enter Try.func132, Try.ntmps132
    go_wp2_with (with_reducible refine wpList_box rfl ?_)
    intro b w1 hB1 hB2 hB3 hB4
    go_wp2_with (with_reducible refine wpList_new newB ?_)
    intro R w2 hR1 hR2 hR3 hR4
    have hX2 := hB3.later hR4
    have hbR : b < R := by have := hB4.size; omega
    have HB2 := Lib.hid (hB4.trans (hR4.mono hB4.size))
    have hwR : w.heap.size ≤ R := by have := hB4.size; omega
    clear hB3 hB4 hR4
    go_wp2_with fail
    refine (l05Ok_any b x w2 hr hx (BAt.of_blk hX2)).mono ?_
    rw [HOK.out]
    rintro e w3 ⟨rfl, hb3⟩
    have hX3 := hX2.later hb3
    have hR3' := hR3.later hb3
    have HB3 := Lib.hid (HB2.out.trans (hb3.mono HB2.out.size))
    clear hb3 hX2 hR3
    go_wp2_with (first | (go_at_call 96; refine (l00In_any z 0 1000 _).mono ?_; rw [HZ.out]; rintro e w' ⟨rfl, rfl⟩) | (with_reducible refine wpList_zero (zeroB _) ?_) | ((with_reducible refine wpList_putB (x := B0) hR3' ?_ ?_ ?_); rfl; rfl))
    intro w20 s20 b20 k20
    go_wp2_with fail
    refine ret_cell2 rfl rfl (loadB b20) rfl ⟨B0, by rw [HW.out]; rfl, by rw [HW.out], ?_⟩
    exact below_grown HB3.out k20 HB3.out.size hwR
  cases hsm : smallB x.n (fb t)
  · have HW : Hid (timesR x.n (fb t) z = (B0.n, 2)) := by show _ = _; unfold timesR; rw [hok, hz, hsm]; rfl
    have HOK := Lib.hid hok
    have HSM := Lib.hid hsm
    have HZ : Hid ((decide (0 ≤ z) && decide (z ≤ 1000)) = true) := hz
    clear hok hz hsm
    go_enter Try.func132, Try.ntmps132
    go_wp2_with (with_reducible refine wpList_box rfl ?_)
    intro b w1 hB1 hB2 hB3 hB4
    go_wp2_with (with_reducible refine wpList_new newB ?_)
    intro R w2 hR1 hR2 hR3 hR4
    have hX2 := hB3.later hR4
    have hbR : b < R := by have := hB4.size; omega
    have HB2 := Lib.hid (hB4.trans (hR4.mono hB4.size))
    have hwR : w.heap.size ≤ R := by have := hB4.size; omega
    clear hB3 hB4 hR4
    go_wp2_with fail
    refine (l05Ok_any b x w2 hr hx (BAt.of_blk hX2)).mono ?_
    rw [HOK.out]
    rintro e w3 ⟨rfl, hb3⟩
    have hX3 := hX2.later hb3
    have hR3' := hR3.later hb3
    have HB3 := Lib.hid (HB2.out.trans (hb3.mono HB2.out.size))
    clear hb3 hX2 hR3
    go_wp2_with (go_at_call 96; refine (l00In_any z 0 1000 _).mono ?_; rw [HZ.out]; rintro e w' ⟨rfl, rfl⟩)
    refine (l05Small_any b t x w3 hs (BAt.of_blk hX3)).mono ?_
    rw [HSM.out]
    rintro e w4 ⟨rfl, hb4⟩
    have hX4 := hX3.later hb4
    have hR4 := hR3'.later hb4
    have HB4 := Lib.hid (HB3.out.trans (hb4.mono HB3.out.size))
    clear hb4 hX3 hR3'
    go_wp2_with (first | (with_reducible refine wpList_zero (zeroB _) ?_) | ((with_reducible refine wpList_putB (x := B0) hR4 ?_ ?_ ?_); rfl; rfl))
    intro w20 s20 b20 k20
    go_wp2_with fail
    refine ret_cell2 rfl rfl (loadB b20) rfl ⟨B0, by rw [HW.out]; rfl, by rw [HW.out], ?_⟩
    exact below_grown HB4.out k20 HB4.out.size hwR
  have HW0 : Hid (timesR x.n (fb t) z = (match mvRun x.n (fb t) z.toNat with | none => (B0.n, 4) | some m => (m, 0))) := by show _ = _; unfold timesR; rw [hok, hz, hsm]; rfl
  have hz2 := hz
  rw [Bool.and_eq_true] at hz2
  have z0 : 0 ≤ z := of_decide_eq_true hz2.1
  have z1 : z ≤ 1000 := of_decide_eq_true hz2.2
  have HOK := Lib.hid hok
  have HSM := Lib.hid hsm
  have HZ : Hid ((decide (0 ≤ z) && decide (z ≤ 1000)) = true) := hz
  clear hok hz hsm hz2
  go_enter Try.func132, Try.ntmps132
  go_wp2_with (with_reducible refine wpList_box rfl ?_)
  intro b w1 hB1 hB2 hB3 hB4
  go_wp2_with (with_reducible refine wpList_new newB ?_)
  intro R w2 hR1 hR2 hR3 hR4
  have hX2 := hB3.later hR4
  have hbR : b < R := by have := hB4.size; omega
  have HB2 := Lib.hid (hB4.trans (hR4.mono hB4.size))
  have hwR : w.heap.size ≤ R := by have := hB4.size; omega
  clear hB3 hB4 hR4
  go_wp2_with fail
  refine (l05Ok_any b x w2 hr hx (BAt.of_blk hX2)).mono ?_
  rw [HOK.out]
  rintro e w3 ⟨rfl, hb3⟩
  have hX3 := hX2.later hb3
  have hR3' := hR3.later hb3
  have HB3 := Lib.hid (HB2.out.trans (hb3.mono HB2.out.size))
  clear hb3 hX2 hR3
  go_wp2_with (go_at_call 96; refine (l00In_any z 0 1000 _).mono ?_; rw [HZ.out]; rintro e w' ⟨rfl, rfl⟩)
  refine (l05Small_any b t x w3 hs (BAt.of_blk hX3)).mono ?_
  rw [HSM.out]
  rintro e w4 ⟨rfl, hb4⟩
  have hX4 := hX3.later hb4
  have hR4 := hR3'.later hb4
  have HB4 := Lib.hid (HB3.out.trans (hb4.mono HB3.out.size))
  clear hb4 hX3 hR3'
  go_wp2_with (first | ((with_reducible refine wpList_getB hX4 ?_ ?_); rfl) | (with_reducible refine wpList_new newB ?_))
  intro O wO hO1 hO2 hO3 hO4
  have hRO := hR4.later hO4
  have HBO := Lib.hid (HB4.out.trans (hO4.mono HB4.out.size))
  have hRO' : R < O := by have := hR4.lt; omega
  go_wp2_with ((with_reducible refine wpList_putB (x := x) hO3 ?_ ?_ ?_); rfl; rfl)
  intro w5 s5 b5 k5
  have HR5 := Lib.hid (hRO.grown k5 (by omega))
  have HO5 := Lib.hid b5
  have hwO : w.heap.size ≤ O := by have := HB4.out.size; omega
  have HB5 := Lib.hid (below_grown HBO.out k5 HBO.out.size hwO)
  have hRl : R < w5.heap.size := HR5.out.lt
  have hOl : O < w5.heap.size := b5.lt
  clear hO3 hO4 hRO k5 hX4 hR4 b5
  go_wp2_with fail
  go_loopw [9] (fun v9 wr => RunRel x (fb t) z w5 O v9 wr) (fun v9 _ => z.toNat - (intOf v9).toNat)
  case atStart => exact ⟨0, x, by omega, rfl, rfl, rfl, HO5.out, grown_refl _ _, Nat.le_refl _⟩
  case round =>
    obtain ⟨k, y, hk, rfl, hrun, hgr, hY, hgrow, hsz⟩ := hrel
    have HRUN := Lib.hid hrun
    have HG := Lib.hid hgrow
    have HY := Lib.hid hY
    have HGR := Lib.hid hgr
    have hsy : y.gr.Sane := by rw [hgr]; exact hs
    have hxy : y.gr.Fx := by rw [hgr]; exact hx
    have HR := Lib.hid (HR5.out.grown hgrow (by omega))
    clear hrun hgrow hY hgr
    by_cases hlt : (k : Int) < z
    · cases hok : okB (mvT y.n (fb t))
      · have HOKM := Lib.hid hok
        have HRN := Lib.hid (mvRun_no HRUN.out hok)
        clear hok
        go_wp2_with fail
        refine (l05Move_any O t _ y wr hsy hxy HY.out).mono ?_
        rintro e w6 ⟨y', rfl, hn', hg', hb6⟩
        rw [HOKM.out]
        have HN' := Lib.hid hn'
        have HG6 := Lib.hid (grown_trans HG.out (grown_below hb6))
        have hY6 := HY.out.later hb6
        have hR6 := HR.out.later hb6
        have hs6 := hb6.size
        clear hn' hb6
        go_wp2_with (with_reducible refine wpList_new newB ?_)
        intro Q w7 hQ1 hQ2 hQ3 hQ4
        have hY7 := hY6.later hQ4
        have hR7 := hR6.later hQ4
        have HG7 := Lib.hid (grown_trans HG6.out (grown_below hQ4))
        go_wp2_with ((with_reducible refine wpList_putB (x := y') hQ3 ?_ ?_ ?_); rfl; rfl)
        intro w8 s8 b8 k8
        have hYQ : O < Q := by have := hY6.lt; omega
        have hRQ : R < Q := by have := hR6.lt; omega
        have hY8 := hY7.grown k8 (by omega)
        have hR8 := hR7.grown k8 (by omega)
        have hQ4s := hQ4.size
        have HG8 : Hid (w5.grownBy w8 (some O)) := grown_new HG7.out k8 (by omega)
        clear hQ3 hQ4 hY6 hR6 hY7 hR7 k8
        have HW : Hid (timesR x.n (fb t) z = (B0.n, 4)) := by
          show _ = _
          rw [HW0.out, mvRun_none HRN.out z.toNat (by omega)]
        have HB8 := Lib.hid (below_grown HB5.out HG8.out HB5.out.size hwO)
        go_wp2_with (first | (with_reducible refine wpList_zero (zeroB _) ?_) | ((with_reducible refine wpList_putB (x := B0) hR8 ?_ ?_ ?_); rfl; rfl))
        intro w20 s20 b20 k20
        go_wp2_with fail
        refine ret_cell2 rfl rfl (loadB b20) rfl ⟨B0, by rw [HW.out]; rfl, by rw [HW.out], ?_⟩
        exact below_grown HB8.out k20 HB8.out.size hwR
      · have HOKM := Lib.hid hok
        have HRN := Lib.hid (mvRun_yes HRUN.out hok)
        clear hok
        go_wp2_with fail
        refine (l05Move_any O t _ y wr hsy hxy HY.out).mono ?_
        rintro e w6 ⟨y', rfl, hn', hg', hb6⟩
        rw [HOKM.out]
        have HN' := Lib.hid hn'
        have HG6 := Lib.hid (grown_trans HG.out (grown_below hb6))
        have hY6 := HY.out.later hb6
        have hR6 := HR.out.later hb6
        have hs6 := hb6.size
        clear hn' hb6
        go_wp2_with (with_reducible refine wpList_new newB ?_)
        intro Q w7 hQ1 hQ2 hQ3 hQ4
        have hY7 := hY6.later hQ4
        have hR7 := hR6.later hQ4
        have HG7 := Lib.hid (grown_trans HG6.out (grown_below hQ4))
        go_wp2_with ((with_reducible refine wpList_putB (x := y') hQ3 ?_ ?_ ?_); rfl; rfl)
        intro w8 s8 b8 k8
        have hYQ : O < Q := by have := hY6.lt; omega
        have hRQ : R < Q := by have := hR6.lt; omega
        have hY8 := hY7.grown k8 (by omega)
        have hR8 := hR7.grown k8 (by omega)
        have hQ4s := hQ4.size
        have HG8 : Hid (w5.grownBy w8 (some O)) := grown_new HG7.out k8 (by omega)
        clear hQ3 hQ4 hY6 hR6 hY7 hR7 k8
        go_wp2_with (first | ((with_reducible refine wpList_getB b8 ?_ ?_); rfl) | ((with_reducible refine wpList_putB (x := y') hY8 ?_ ?_ ?_); rfl; rfl))
        intro w9 s9 b9 k9
        have H9 := Lib.hid b9
        have HG9 := Lib.hid (grown_trans HG8.out k9)
        have hg2 : y'.gr = x.gr := hg'.trans HGR.out
        clear hg' b9 k9 b8 hY8 hR8
        go_wp2_with fail
        go_roundw
        case rel => exact ⟨k + 1, y', by omega, by go_num, by rw [HRN.out, HN'.out], hg2, H9.out, HG9.out, by omega⟩
        case measure => simp [intOf]; omega
    · obtain rfl : z = k := by omega
      have HW : Hid (timesR x.n (fb t) k = (y.n, 0)) := by
        show _ = _
        rw [HW0.out, show ((k : Nat) : Int).toNat = k from Int.toNat_natCast k, HRUN.out]
      have HBw := Lib.hid (below_grown HB5.out HG.out HB5.out.size hwO)
      have hRw := HR.out
      go_wp2_with (first | ((with_reducible refine wpList_getB HY.out ?_ ?_); rfl) | ((with_reducible refine wpList_putB (x := y) hRw ?_ ?_ ?_); rfl; rfl))
      intro w20 s20 b20 k20
      go_wp2_with fail
      refine ret_cell2 rfl rfl (loadB b20) rfl ⟨y, by rw [HW.out]; rfl, by rw [HW.out], ?_⟩
      exact below_grown HBw.out k20 HBw.out.size hwR

set_option maxRecDepth 100000 in
set_option maxHeartbeats 800000 in
theorem specMoveSalt_any (x : Br) (t : Nat) (w : World) (hr : x.gr.Rng) (hx : x.gr.Fx) :
    Calls Try.prog 37 #[.agg (arrB x), .float .f32 t] w (RetBC' (stepR x.n (fb t)) w) := by
  go_enter Try.func37, Try.ntmps37
  go_wp2_with (with_reducible refine wpList_box rfl ?_)
  intro b w1 hB1 hB2 hB3 hB4
  go_wp2_with (with_reducible refine wpList_new newB ?_)
  intro R w2 hR1 hR2 hR3 hR4
  have hX2 := hB3.later hR4
  have hbR : b < R := by have := hB4.size; omega
  have HB2 := Lib.hid (hB4.trans (hR4.mono hB4.size))
  have hwR : w.heap.size ≤ R := by have := hB4.size; omega
  clear hB3 hB4 hR4
  go_wp2_with ((with_reducible refine wpList_getB hX2 ?_ ?_); rfl)
  refine (specMoveTimes_any x t 1 w2 hr hx).mono ?_
  rw [times_one]
  rintro e w3 ⟨y, rfl, hn, hb3⟩
  have hR3' := hR3.later hb3
  have HB3 := Lib.hid (HB2.out.trans (hb3.mono HB2.out.size))
  clear hb3 hR3
  go_wp2_with ((with_reducible refine wpList_putB (x := y) hR3' ?_ ?_ ?_); rfl; rfl)
  intro w20 s20 b20 k20
  go_wp2_with fail
  refine ret_cell2 rfl rfl (loadB b20) rfl ⟨y, rfl, hn, ?_⟩
  exact below_grown HB3.out k20 HB3.out.size hwR

set_option maxRecDepth 100000 in
set_option maxHeartbeats 800000 in
theorem MoveSalt_any (x : Br) (t : Nat) (w : World) (hr : x.gr.Rng) (hx : x.gr.Fx) :
    Calls Try.prog 36 #[.agg (arrB x), .float .f32 t] w (RetBC' (stepR x.n (fb t)) w) := by
  cases hok : okB x.n
  · have HW : Hid (stepR x.n (fb t) = (B0.n, 1)) := by show _ = _; unfold stepR; rw [hok]; rfl
    have HOK := Lib.hid hok
    clear hok
    go_enter Try.func36, Try.ntmps36
    go_wp2_with (with_reducible refine wpList_box rfl ?_)
    intro b w1 hB1 hB2 hB3 hB4
    go_wp2_with (with_reducible refine wpList_new newB ?_)
    intro R w2 hR1 hR2 hR3 hR4
    have hX2 := hB3.later hR4
    have hbR : b < R := by have := hB4.size; omega
    have HB2 := Lib.hid (hB4.trans (hR4.mono hB4.size))
    have hwR : w.heap.size ≤ R := by have := hB4.size; omega
    clear hB3 hB4 hR4
    go_wp2_with ((with_reducible refine wpList_getB hX2 ?_ ?_); rfl)
    refine (ValidBrine_any x w2 hr hx).mono ?_
    rw [HOK.out]
    rintro e w3 ⟨rfl, hb3⟩
    have hX3 := hX2.later hb3
    have hR3' := hR3.later hb3
    have HB3 := Lib.hid (HB2.out.trans (hb3.mono HB2.out.size))
    clear hb3 hX2 hR3
    go_wp2_with (first | (with_reducible refine wpList_zero (zeroB _) ?_) | ((with_reducible refine wpList_putB (x := B0) hR3' ?_ ?_ ?_); rfl; rfl))
    intro w20 s20 b20 k20
    go_wp2_with fail
    refine ret_cell2 rfl rfl (loadB b20) rfl ⟨B0, by rw [HW.out]; rfl, by rw [HW.out], ?_⟩
    exact below_grown HB3.out k20 HB3.out.size hwR
  · have hs := sane_of (okB_g hok) hx
    have HW : Hid (stepR x.n (fb t) = mvR x.n (fb t)) := by show _ = _; unfold stepR; rw [hok]; rfl
    have HOK := Lib.hid hok
    clear hok
    go_enter Try.func36, Try.ntmps36
    go_wp2_with (with_reducible refine wpList_box rfl ?_)
    intro b w1 hB1 hB2 hB3 hB4
    go_wp2_with (with_reducible refine wpList_new newB ?_)
    intro R w2 hR1 hR2 hR3 hR4
    have hX2 := hB3.later hR4
    have hbR : b < R := by have := hB4.size; omega
    have HB2 := Lib.hid (hB4.trans (hR4.mono hB4.size))
    have hwR : w.heap.size ≤ R := by have := hB4.size; omega
    clear hB3 hB4 hR4
    go_wp2_with ((with_reducible refine wpList_getB hX2 ?_ ?_); rfl)
    refine (ValidBrine_any x w2 hr hx).mono ?_
    rw [HOK.out]
    rintro e w3 ⟨rfl, hb3⟩
    have hX3 := hX2.later hb3
    have hR3' := hR3.later hb3
    have HB3 := Lib.hid (HB2.out.trans (hb3.mono HB2.out.size))
    clear hb3 hX2 hR3
    go_wp2_with fail
    refine (moved_any b t _ x w3 hs hx hX3).mono ?_
    rintro e w4 ⟨y, rfl, hn, _, hb4⟩
    have hR4 := hR3'.later hb4
    have HB4 := Lib.hid (HB3.out.trans (hb4.mono HB3.out.size))
    clear hb4 hR3'
    go_wp2_with ((with_reducible refine wpList_putB (x := y) hR4 ?_ ?_ ?_); rfl; rfl)
    intro w20 s20 b20 k20
    go_wp2_with fail
    refine ret_cell2 rfl rfl (loadB b20) rfl ⟨y, by rw [HW.out]; rfl, by rw [HW.out]; exact hn, ?_⟩
    exact below_grown HB4.out k20 HB4.out.size hwR
end Go.Proofs.Ytfcphfdfpjmgiaa

namespace Go.Proofs.Ytfcphfdfpjmgiaa
open Go.RowKit

/-- What is left of a number behind so many times. -/
def decF (a q : F) : Nat → F
  | 0 => a
  | k + 1 => fmul (decF a q k) q
def timB (z : Int) : Bool := decide (0 ≤ z) && decide (z ≤ 1000)
def keepB (a q : F) (z : Int) : Bool := amount a && (fge q (fb 0) && (fle q (fb 1065353216) && timB z))
def decN (n : N) (q : F) (k : Nat) : N := { n with s := updL n.s (fun c => decF (n.s c) q k) (cellsTo n.g.wide n.g.high 64) }
def decR (n : N) (q : F) (z : Int) : N × Int := if okB n then (if keepB (fb 0) q z then (decN n q z.toNat, 0) else (B0.n, 2)) else (B0.n, 1)
theorem keepB_time {a q : F} {z : Int} (h : keepB a q z = true) : 0 ≤ z ∧ z ≤ 1000 := by
  unfold keepB timB at h
  simp only [Bool.and_eq_true, decide_eq_true_eq] at h
  exact h.2.2.2
def DecRel (a q : F) (z : Int) (w : World) (v0 v8 : Value) (wr : World) : Prop :=
  ∃ j r : Nat, (j : Int) ≤ z ∧ v8 = .int .i64 j ∧ v0 = .float .f32 r ∧ Is r (decF a q j) ∧ Below w.heap.size w wr
theorem updL_same {f d : Nat → F} {l : List Nat} (hl : l.Nodup) {j c : Nat} (hc : l[j]? = some c) : updL f d (l.take j) c = f c := updL_out (not_take hl hc)
theorem cellsTo_out {W H : Int} {k : Nat} : k ∉ cellsTo W H k := fun h => Nat.lt_irrefl _ (cellsTo_lt h)

set_option maxRecDepth 100000 in
set_option maxHeartbeats 800000 in
theorem decayed_any (a q : Nat) (z : Int) (w : World) (z0 : 0 ≤ z) (z1 : z ≤ 1000) :
    Calls Try.prog 150 #[.float .f32 a, .float .f32 q, .int .i64 z] w (RetF (decF (fb a) (fb q) z.toNat) w) := by
  go_enter Try.func150, Try.ntmps150
  go_wp2_with fail
  go_loopw [0, 8] (fun v0 v8 wr => DecRel (fb a) (fb q) z w v0 v8 wr) (fun _ v8 _ => z.toNat - (intOf v8).toNat)
  case atStart => exact ⟨0, a, by omega, rfl, rfl, rfl, Below.refl _ _⟩
  case round =>
    obtain ⟨j, r0, hj, rfl, rfl, hr0, hB⟩ := hrel
    have HR0 := Lib.hid hr0
    have HBr := Lib.hid hB
    clear hr0 hB
    by_cases hlt : (j : Int) < z
    · go_wp2_with (first | ((with_reducible refine wpList_gate ?_); refine wpList_arith _ _ rfl rfl rfl ?_; intro r n hr))
      go_roundw
      case rel => exact ⟨j + 1, _, by omega, by go_num, rfl, hr.op HR0.out rfl, below_drawn HBr.out _⟩
      case measure => simp [intOf]; omega
    · obtain rfl : z = j := by omega
      go_wp2_with fail
      go_ret
      exact ⟨_, rfl, HR0.out, HBr.out⟩

set_option maxRecDepth 100000 in
set_option maxHeartbeats 800000 in
theorem l05Decay_any (a q : Nat) (z : Int) (w : World) (z0 : 0 ≤ z) (z1 : z ≤ 1000) :
    Calls Try.prog 152 #[.float .f32 a, .float .f32 q, .int .i64 z] w (RetF (decF (fb a) (fb q) z.toNat) w) := by
  go_enter Try.func152, Try.ntmps152
  go_wp2_with fail
  go_loopw [0, 7] (fun v0 v8 wr => DecRel (fb a) (fb q) z w v0 v8 wr) (fun _ v8 _ => z.toNat - (intOf v8).toNat)
  case atStart => exact ⟨0, a, by omega, rfl, rfl, rfl, Below.refl _ _⟩
  case round =>
    obtain ⟨j, r0, hj, rfl, rfl, hr0, hB⟩ := hrel
    have HR0 := Lib.hid hr0
    have HBr := Lib.hid hB
    clear hr0 hB
    by_cases hlt : (j : Int) < z
    · go_wp2_with (first | ((with_reducible refine wpList_gate ?_); refine wpList_arith _ _ rfl rfl rfl ?_; intro r n hr))
      go_roundw
      case rel => exact ⟨j + 1, _, by omega, by go_num, rfl, hr.op HR0.out rfl, below_drawn HBr.out _⟩
      case measure => simp [intOf]; omega
    · obtain rfl : z = j := by omega
      go_wp2_with fail
      go_ret
      exact ⟨_, rfl, HR0.out, HBr.out⟩

set_option maxRecDepth 100000 in
set_option maxHeartbeats 1600000 in
theorem decayOk_any (a q : Nat) (z : Int) (w : World) :
    Calls Try.prog 149 #[.float .f32 a, .float .f32 q, .int .i64 z] w (RetB (keepB (fb a) (fb q) z) w) := by
  have hgt' := order_gt
  have hlt' := order_lt
  have heq' := order_eq
  obtain ⟨tb, htb⟩ : ∃ tb, timB z = tb := ⟨_, rfl⟩
  have HT : Hid ((decide (0 ≤ z) && decide (z ≤ 1000)) = tb) := htb
  have HT2 := Lib.hid htb
  clear htb
  cases ha : amount (fb a)
  · have HA := Lib.hid ha
    clear ha
    have HW : Hid (keepB (fb a) (fb q) z = false) := by show _ = _; unfold keepB fge fle; rw [HA.out]; simp
    go_enter Try.func149, Try.ntmps149
    go_wp2_with fail
    refine (isAmount_any a w).mono ?_
    rw [HA.out]
    rintro e w1 ⟨rfl, hb1⟩
    have HB := Lib.hid hb1
    clear hb1
    go_wp2_with fail
    go_ret
    exact ⟨ret_bool (by rw [HW.out]), HB.out⟩
  have HA := Lib.hid ha
  clear ha
  cases hg : fgt (fb q) (fb 0)
  · cases hg2 : feq (fb q) (fb 0)
    · have HW : Hid (keepB (fb a) (fb q) z = false) := by show _ = _; unfold keepB fge fle; rw [HA.out, hg, hg2]; simp
      go_enter Try.func149, Try.ntmps149
      go_wp2_with fail
      refine (isAmount_any a w).mono ?_
      rw [HA.out]
      rintro e w1 ⟨rfl, hb1⟩
      have HB := Lib.hid hb1
      clear hb1
      go_wp2_with fail
      go_ret
      exact ⟨ret_bool (by rw [HW.out]), HB.out⟩
    · cases hl : flt (fb q) (fb 1065353216)
      · cases hl2 : feq (fb q) (fb 1065353216)
        · have HW : Hid (keepB (fb a) (fb q) z = false) := by show _ = _; unfold keepB fge fle; rw [HA.out, hg, hg2, hl, hl2]; simp
          go_enter Try.func149, Try.ntmps149
          go_wp2_with fail
          refine (isAmount_any a w).mono ?_
          rw [HA.out]
          rintro e w1 ⟨rfl, hb1⟩
          have HB := Lib.hid hb1
          clear hb1
          go_wp2_with fail
          go_ret
          exact ⟨ret_bool (by rw [HW.out]), HB.out⟩
        · have HW : Hid (keepB (fb a) (fb q) z = tb) := by show _ = _; unfold keepB fge fle; rw [HA.out, hg, hg2, hl, hl2, HT2.out]; simp
          go_enter Try.func149, Try.ntmps149
          go_wp2_with fail
          refine (isAmount_any a w).mono ?_
          rw [HA.out]
          rintro e w1 ⟨rfl, hb1⟩
          have HB := Lib.hid hb1
          clear hb1
          go_wp2_with (go_at_call 134; refine (isTimes_any z _).mono ?_; rw [HT.out]; rintro e w' ⟨rfl, rfl⟩)
          go_ret
          exact ⟨ret_bool (by rw [HW.out]), HB.out⟩
      · have HW : Hid (keepB (fb a) (fb q) z = tb) := by show _ = _; unfold keepB fge fle; rw [HA.out, hg, hg2, hl, HT2.out]; simp
        go_enter Try.func149, Try.ntmps149
        go_wp2_with fail
        refine (isAmount_any a w).mono ?_
        rw [HA.out]
        rintro e w1 ⟨rfl, hb1⟩
        have HB := Lib.hid hb1
        clear hb1
        go_wp2_with (go_at_call 134; refine (isTimes_any z _).mono ?_; rw [HT.out]; rintro e w' ⟨rfl, rfl⟩)
        go_ret
        exact ⟨ret_bool (by rw [HW.out]), HB.out⟩
  · cases hl : flt (fb q) (fb 1065353216)
    · cases hl2 : feq (fb q) (fb 1065353216)
      · have HW : Hid (keepB (fb a) (fb q) z = false) := by show _ = _; unfold keepB fge fle; rw [HA.out, hg, hl, hl2]; simp
        go_enter Try.func149, Try.ntmps149
        go_wp2_with fail
        refine (isAmount_any a w).mono ?_
        rw [HA.out]
        rintro e w1 ⟨rfl, hb1⟩
        have HB := Lib.hid hb1
        clear hb1
        go_wp2_with fail
        go_ret
        exact ⟨ret_bool (by rw [HW.out]), HB.out⟩
      · have HW : Hid (keepB (fb a) (fb q) z = tb) := by show _ = _; unfold keepB fge fle; rw [HA.out, hg, hl, hl2, HT2.out]; simp
        go_enter Try.func149, Try.ntmps149
        go_wp2_with fail
        refine (isAmount_any a w).mono ?_
        rw [HA.out]
        rintro e w1 ⟨rfl, hb1⟩
        have HB := Lib.hid hb1
        clear hb1
        go_wp2_with (go_at_call 134; refine (isTimes_any z _).mono ?_; rw [HT.out]; rintro e w' ⟨rfl, rfl⟩)
        go_ret
        exact ⟨ret_bool (by rw [HW.out]), HB.out⟩
    · have HW : Hid (keepB (fb a) (fb q) z = tb) := by show _ = _; unfold keepB fge fle; rw [HA.out, hg, hl, HT2.out]; simp
      go_enter Try.func149, Try.ntmps149
      go_wp2_with fail
      refine (isAmount_any a w).mono ?_
      rw [HA.out]
      rintro e w1 ⟨rfl, hb1⟩
      have HB := Lib.hid hb1
      clear hb1
      go_wp2_with (go_at_call 134; refine (isTimes_any z _).mono ?_; rw [HT.out]; rintro e w' ⟨rfl, rfl⟩)
      go_ret
      exact ⟨ret_bool (by rw [HW.out]), HB.out⟩

set_option maxRecDepth 100000 in
set_option maxHeartbeats 1600000 in
theorem l05Keep_any (a q : Nat) (z : Int) (w : World) :
    Calls Try.prog 151 #[.float .f32 a, .float .f32 q, .int .i64 z] w (RetB (keepB (fb a) (fb q) z) w) := by
  have hgt' := order_gt
  have hlt' := order_lt
  have heq' := order_eq
  obtain ⟨tb, htb⟩ : ∃ tb, timB z = tb := ⟨_, rfl⟩
  have HT : Hid ((decide (0 ≤ z) && decide (z ≤ 1000)) = tb) := htb
  have HT2 := Lib.hid htb
  clear htb
  cases hp : plain (fb a)
  · have HP := Lib.hid hp
    have HA : Hid (amount (fb a) = false) := by show _ = _; unfold amount; rw [hp]; rfl
    clear hp
    have HW : Hid (keepB (fb a) (fb q) z = false) := by show _ = _; unfold keepB fge fle; rw [HA.out]; simp
    go_enter Try.func151, Try.ntmps151
    go_wp2_with fail
    refine (l01Plain_any a w).mono ?_
    rw [HP.out]
    rintro e w1 ⟨rfl, hb1⟩
    have HB := Lib.hid hb1
    clear hb1
    go_wp2_with fail
    go_ret
    exact ⟨ret_bool (by rw [HW.out]), HB.out⟩
  have HP := Lib.hid hp
  have HPT := hp
  clear hp
  have hfa : amount (fb a) = fge (fb a) (fb 0) := by unfold amount; rw [HPT, fb0]; rfl
  have HFA := Lib.hid hfa
  clear hfa HPT
  obtain ⟨d1, hd1⟩ : ∃ d, fgt (fb a) (fb 0) = d := ⟨_, rfl⟩
  obtain ⟨d2, hd2⟩ : ∃ d, feq (fb a) (fb 0) = d := ⟨_, rfl⟩
  have HAD : Hid (amount (fb a) = (d1 || d2)) := by show _ = _; rw [HFA.out]; unfold fge; rw [hd1, hd2]
  obtain ⟨am, ham⟩ : ∃ am, (d1 || d2) = am := ⟨_, rfl⟩
  have HA : Hid (amount (fb a) = am) := by show _ = _; rw [HAD.out, ham]
  clear HAD HFA
  cases am
  · obtain ⟨rfl, rfl⟩ : d1 = false ∧ d2 = false := by cases d1 <;> cases d2 <;> simp_all
    have HW : Hid (keepB (fb a) (fb q) z = false) := by show _ = _; unfold keepB fge fle; rw [HA.out]; simp
    go_enter Try.func151, Try.ntmps151
    go_wp2_with fail
    refine (l01Plain_any a w).mono ?_
    rw [HP.out]
    rintro e w1 ⟨rfl, hb1⟩
    have HB := Lib.hid hb1
    clear hb1
    go_wp2_with fail
    go_ret
    exact ⟨ret_bool (by rw [HW.out]), HB.out⟩
  have hcs : (d1 = true) ∨ (d1 = false ∧ d2 = true) := by cases d1 <;> cases d2 <;> simp_all
  clear ham
  rcases hcs with rfl | ⟨rfl, rfl⟩
  · cases hg : fgt (fb q) (fb 0)
    · cases hg2 : feq (fb q) (fb 0)
      · have HW : Hid (keepB (fb a) (fb q) z = false) := by show _ = _; unfold keepB fge fle; rw [HA.out, hg, hg2]; simp
        go_enter Try.func151, Try.ntmps151
        go_wp2_with fail
        refine (l01Plain_any a w).mono ?_
        rw [HP.out]
        rintro e w1 ⟨rfl, hb1⟩
        have HB := Lib.hid hb1
        clear hb1
        go_wp2_with fail
        go_ret
        exact ⟨ret_bool (by rw [HW.out]), HB.out⟩
      · cases hl : flt (fb q) (fb 1065353216)
        · cases hl2 : feq (fb q) (fb 1065353216)
          · have HW : Hid (keepB (fb a) (fb q) z = false) := by show _ = _; unfold keepB fge fle; rw [HA.out, hg, hg2, hl, hl2]; simp
            go_enter Try.func151, Try.ntmps151
            go_wp2_with fail
            refine (l01Plain_any a w).mono ?_
            rw [HP.out]
            rintro e w1 ⟨rfl, hb1⟩
            have HB := Lib.hid hb1
            clear hb1
            go_wp2_with fail
            go_ret
            exact ⟨ret_bool (by rw [HW.out]), HB.out⟩
          · have HW : Hid (keepB (fb a) (fb q) z = tb) := by show _ = _; unfold keepB fge fle; rw [HA.out, hg, hg2, hl, hl2, HT2.out]; simp
            go_enter Try.func151, Try.ntmps151
            go_wp2_with fail
            refine (l01Plain_any a w).mono ?_
            rw [HP.out]
            rintro e w1 ⟨rfl, hb1⟩
            have HB := Lib.hid hb1
            clear hb1
            go_wp2_with (go_at_call 96; refine (l00In_any z 0 1000 _).mono ?_; rw [HT.out]; rintro e w' ⟨rfl, rfl⟩)
            go_ret
            exact ⟨ret_bool (by rw [HW.out]), HB.out⟩
        · have HW : Hid (keepB (fb a) (fb q) z = tb) := by show _ = _; unfold keepB fge fle; rw [HA.out, hg, hg2, hl, HT2.out]; simp
          go_enter Try.func151, Try.ntmps151
          go_wp2_with fail
          refine (l01Plain_any a w).mono ?_
          rw [HP.out]
          rintro e w1 ⟨rfl, hb1⟩
          have HB := Lib.hid hb1
          clear hb1
          go_wp2_with (go_at_call 96; refine (l00In_any z 0 1000 _).mono ?_; rw [HT.out]; rintro e w' ⟨rfl, rfl⟩)
          go_ret
          exact ⟨ret_bool (by rw [HW.out]), HB.out⟩
    · cases hl : flt (fb q) (fb 1065353216)
      · cases hl2 : feq (fb q) (fb 1065353216)
        · have HW : Hid (keepB (fb a) (fb q) z = false) := by show _ = _; unfold keepB fge fle; rw [HA.out, hg, hl, hl2]; simp
          go_enter Try.func151, Try.ntmps151
          go_wp2_with fail
          refine (l01Plain_any a w).mono ?_
          rw [HP.out]
          rintro e w1 ⟨rfl, hb1⟩
          have HB := Lib.hid hb1
          clear hb1
          go_wp2_with fail
          go_ret
          exact ⟨ret_bool (by rw [HW.out]), HB.out⟩
        · have HW : Hid (keepB (fb a) (fb q) z = tb) := by show _ = _; unfold keepB fge fle; rw [HA.out, hg, hl, hl2, HT2.out]; simp
          go_enter Try.func151, Try.ntmps151
          go_wp2_with fail
          refine (l01Plain_any a w).mono ?_
          rw [HP.out]
          rintro e w1 ⟨rfl, hb1⟩
          have HB := Lib.hid hb1
          clear hb1
          go_wp2_with (go_at_call 96; refine (l00In_any z 0 1000 _).mono ?_; rw [HT.out]; rintro e w' ⟨rfl, rfl⟩)
          go_ret
          exact ⟨ret_bool (by rw [HW.out]), HB.out⟩
      · have HW : Hid (keepB (fb a) (fb q) z = tb) := by show _ = _; unfold keepB fge fle; rw [HA.out, hg, hl, HT2.out]; simp
        go_enter Try.func151, Try.ntmps151
        go_wp2_with fail
        refine (l01Plain_any a w).mono ?_
        rw [HP.out]
        rintro e w1 ⟨rfl, hb1⟩
        have HB := Lib.hid hb1
        clear hb1
        go_wp2_with (go_at_call 96; refine (l00In_any z 0 1000 _).mono ?_; rw [HT.out]; rintro e w' ⟨rfl, rfl⟩)
        go_ret
        exact ⟨ret_bool (by rw [HW.out]), HB.out⟩
  · cases hg : fgt (fb q) (fb 0)
    · cases hg2 : feq (fb q) (fb 0)
      · have HW : Hid (keepB (fb a) (fb q) z = false) := by show _ = _; unfold keepB fge fle; rw [HA.out, hg, hg2]; simp
        go_enter Try.func151, Try.ntmps151
        go_wp2_with fail
        refine (l01Plain_any a w).mono ?_
        rw [HP.out]
        rintro e w1 ⟨rfl, hb1⟩
        have HB := Lib.hid hb1
        clear hb1
        go_wp2_with fail
        go_ret
        exact ⟨ret_bool (by rw [HW.out]), HB.out⟩
      · cases hl : flt (fb q) (fb 1065353216)
        · cases hl2 : feq (fb q) (fb 1065353216)
          · have HW : Hid (keepB (fb a) (fb q) z = false) := by show _ = _; unfold keepB fge fle; rw [HA.out, hg, hg2, hl, hl2]; simp
            go_enter Try.func151, Try.ntmps151
            go_wp2_with fail
            refine (l01Plain_any a w).mono ?_
            rw [HP.out]
            rintro e w1 ⟨rfl, hb1⟩
            have HB := Lib.hid hb1
            clear hb1
            go_wp2_with fail
            go_ret
            exact ⟨ret_bool (by rw [HW.out]), HB.out⟩
          · have HW : Hid (keepB (fb a) (fb q) z = tb) := by show _ = _; unfold keepB fge fle; rw [HA.out, hg, hg2, hl, hl2, HT2.out]; simp
            go_enter Try.func151, Try.ntmps151
            go_wp2_with fail
            refine (l01Plain_any a w).mono ?_
            rw [HP.out]
            rintro e w1 ⟨rfl, hb1⟩
            have HB := Lib.hid hb1
            clear hb1
            go_wp2_with (go_at_call 96; refine (l00In_any z 0 1000 _).mono ?_; rw [HT.out]; rintro e w' ⟨rfl, rfl⟩)
            go_ret
            exact ⟨ret_bool (by rw [HW.out]), HB.out⟩
        · have HW : Hid (keepB (fb a) (fb q) z = tb) := by show _ = _; unfold keepB fge fle; rw [HA.out, hg, hg2, hl, HT2.out]; simp
          go_enter Try.func151, Try.ntmps151
          go_wp2_with fail
          refine (l01Plain_any a w).mono ?_
          rw [HP.out]
          rintro e w1 ⟨rfl, hb1⟩
          have HB := Lib.hid hb1
          clear hb1
          go_wp2_with (go_at_call 96; refine (l00In_any z 0 1000 _).mono ?_; rw [HT.out]; rintro e w' ⟨rfl, rfl⟩)
          go_ret
          exact ⟨ret_bool (by rw [HW.out]), HB.out⟩
    · cases hl : flt (fb q) (fb 1065353216)
      · cases hl2 : feq (fb q) (fb 1065353216)
        · have HW : Hid (keepB (fb a) (fb q) z = false) := by show _ = _; unfold keepB fge fle; rw [HA.out, hg, hl, hl2]; simp
          go_enter Try.func151, Try.ntmps151
          go_wp2_with fail
          refine (l01Plain_any a w).mono ?_
          rw [HP.out]
          rintro e w1 ⟨rfl, hb1⟩
          have HB := Lib.hid hb1
          clear hb1
          go_wp2_with fail
          go_ret
          exact ⟨ret_bool (by rw [HW.out]), HB.out⟩
        · have HW : Hid (keepB (fb a) (fb q) z = tb) := by show _ = _; unfold keepB fge fle; rw [HA.out, hg, hl, hl2, HT2.out]; simp
          go_enter Try.func151, Try.ntmps151
          go_wp2_with fail
          refine (l01Plain_any a w).mono ?_
          rw [HP.out]
          rintro e w1 ⟨rfl, hb1⟩
          have HB := Lib.hid hb1
          clear hb1
          go_wp2_with (go_at_call 96; refine (l00In_any z 0 1000 _).mono ?_; rw [HT.out]; rintro e w' ⟨rfl, rfl⟩)
          go_ret
          exact ⟨ret_bool (by rw [HW.out]), HB.out⟩
      · have HW : Hid (keepB (fb a) (fb q) z = tb) := by show _ = _; unfold keepB fge fle; rw [HA.out, hg, hl, HT2.out]; simp
        go_enter Try.func151, Try.ntmps151
        go_wp2_with fail
        refine (l01Plain_any a w).mono ?_
        rw [HP.out]
        rintro e w1 ⟨rfl, hb1⟩
        have HB := Lib.hid hb1
        clear hb1
        go_wp2_with (go_at_call 96; refine (l00In_any z 0 1000 _).mono ?_; rw [HT.out]; rintro e w' ⟨rfl, rfl⟩)
        go_ret
        exact ⟨ret_bool (by rw [HW.out]), HB.out⟩

set_option maxRecDepth 100000 in
set_option maxHeartbeats 3200000 in
theorem DecaySalt_any (x : Br) (t : Nat) (z : Int) (w : World) (hr : x.gr.Rng) (hx : x.gr.Fx) :
    Calls Try.prog 62 #[.agg (arrB x), .float .f32 t, .int .i64 z] w (RetBC' (decR x.n (fb t) z) w) := by
  cases hok : okB x.n
  · have HW : Hid (decR x.n (fb t) z = (B0.n, 1)) := by show _ = _; unfold decR; rw [hok]; rfl
    have HOK := Lib.hid hok
    clear hok
    go_enter Try.func62, Try.ntmps62
    go_wp2_with (with_reducible refine wpList_box rfl ?_)
    intro b w1 hB1 hB2 hB3 hB4
    go_wp2_with (with_reducible refine wpList_new newB ?_)
    intro R w2 hR1 hR2 hR3 hR4
    have hX2 := hB3.later hR4
    have hbR : b < R := by have := hB4.size; omega
    have HB2 := Lib.hid (hB4.trans (hR4.mono hB4.size))
    have hwR : w.heap.size ≤ R := by have := hB4.size; omega
    clear hB3 hB4 hR4
    go_wp2_with ((with_reducible refine wpList_getB hX2 ?_ ?_); rfl)
    refine (ValidBrine_any x w2 hr hx).mono ?_
    rw [HOK.out]
    rintro e w3 ⟨rfl, hb3⟩
    have hX3 := hX2.later hb3
    have hR3' := hR3.later hb3
    have HB3 := Lib.hid (HB2.out.trans (hb3.mono HB2.out.size))
    clear hb3 hX2 hR3
    go_wp2_with (first | (with_reducible refine wpList_zero (zeroB _) ?_) | ((with_reducible refine wpList_putB (x := B0) hR3' ?_ ?_ ?_); rfl; rfl))
    intro w20 s20 b20 k20
    go_wp2_with fail
    refine ret_cell2 rfl rfl (loadB b20) rfl ⟨B0, by rw [HW.out]; rfl, by rw [HW.out], ?_⟩
    exact below_grown HB3.out k20 HB3.out.size hwR
  cases hk : keepB (fb 0) (fb t) z
  · have HW : Hid (decR x.n (fb t) z = (B0.n, 2)) := by show _ = _; unfold decR; rw [hok, hk]; rfl
    have HOK := Lib.hid hok
    have HK := Lib.hid hk
    clear hok hk
    go_enter Try.func62, Try.ntmps62
    go_wp2_with (with_reducible refine wpList_box rfl ?_)
    intro b w1 hB1 hB2 hB3 hB4
    go_wp2_with (with_reducible refine wpList_new newB ?_)
    intro R w2 hR1 hR2 hR3 hR4
    have hX2 := hB3.later hR4
    have hbR : b < R := by have := hB4.size; omega
    have HB2 := Lib.hid (hB4.trans (hR4.mono hB4.size))
    have hwR : w.heap.size ≤ R := by have := hB4.size; omega
    clear hB3 hB4 hR4
    go_wp2_with ((with_reducible refine wpList_getB hX2 ?_ ?_); rfl)
    refine (ValidBrine_any x w2 hr hx).mono ?_
    rw [HOK.out]
    rintro e w3 ⟨rfl, hb3⟩
    have hX3 := hX2.later hb3
    have hR3' := hR3.later hb3
    have HB3 := Lib.hid (HB2.out.trans (hb3.mono HB2.out.size))
    clear hb3 hX2 hR3
    go_wp2_with fail
    refine (decayOk_any 0 t z w3).mono ?_
    rw [HK.out]
    rintro e w4 ⟨rfl, hb4⟩
    have hX4 := hX3.later hb4
    have hR4 := hR3'.later hb4
    have HB4 := Lib.hid (HB3.out.trans (hb4.mono HB3.out.size))
    clear hb4 hX3 hR3'
    go_wp2_with (first | (with_reducible refine wpList_zero (zeroB _) ?_) | ((with_reducible refine wpList_putB (x := B0) hR4 ?_ ?_ ?_); rfl; rfl))
    intro w20 s20 b20 k20
    go_wp2_with fail
    refine ret_cell2 rfl rfl (loadB b20) rfl ⟨B0, by rw [HW.out]; rfl, by rw [HW.out], ?_⟩
    exact below_grown HB4.out k20 HB4.out.size hwR
  have HW : Hid (decR x.n (fb t) z = (decN x.n (fb t) z.toNat, 0)) := by show _ = _; unfold decR; rw [hok, hk]; rfl
  obtain ⟨z0, z1⟩ := keepB_time hk
  have HOK := Lib.hid hok
  have HK := Lib.hid hk
  clear hok hk
  go_enter Try.func62, Try.ntmps62
  go_wp2_with (with_reducible refine wpList_box rfl ?_)
  intro b w1 hB1 hB2 hB3 hB4
  go_wp2_with (with_reducible refine wpList_new newB ?_)
  intro R w2 hR1 hR2 hR3 hR4
  have hX2 := hB3.later hR4
  have hbR : b < R := by have := hB4.size; omega
  have HB2 := Lib.hid (hB4.trans (hR4.mono hB4.size))
  have hwR : w.heap.size ≤ R := by have := hB4.size; omega
  clear hB3 hB4 hR4
  go_wp2_with ((with_reducible refine wpList_getB hX2 ?_ ?_); rfl)
  refine (ValidBrine_any x w2 hr hx).mono ?_
  rw [HOK.out]
  rintro e w3 ⟨rfl, hb3⟩
  have hX3 := hX2.later hb3
  have hR3' := hR3.later hb3
  have HB3 := Lib.hid (HB2.out.trans (hb3.mono HB2.out.size))
  clear hb3 hX2 hR3
  go_wp2_with fail
  refine (decayOk_any 0 t z w3).mono ?_
  rw [HK.out]
  rintro e w4 ⟨rfl, hb4⟩
  have hX4 := hX3.later hb4
  have hR4 := hR3'.later hb4
  have HB4 := Lib.hid (HB3.out.trans (hb4.mono HB3.out.size))
  clear hb4 hX3 hR3'
  go_wp2_with fail
  refine (cells_any b 0 x.gr w4 hr (BAt.of_blk hX4).g).mono ?_
  rintro e w5 ⟨v, rfl, hown, hb5⟩
  obtain ⟨aL, cap, rfl, hL⟩ := list_form hown
  have HL := Lib.hid hL
  have HX5 := Lib.hid (hX4.later hb5)
  have HR5 := Lib.hid (hR4.later hb5)
  have HB5 := Lib.hid (HB4.out.trans (hb5.mono HB4.out.size))
  have hlen := cellsTo_length x.gr.wide x.gr.high 64
  have hbl : b < w4.heap.size := hX4.lt
  have hb_ : w.heap.size ≤ b := hB1
  clear hL hown hb5 hX4 hR4
  go_wp2_with fail
  go_loopw [24] (fun vj wr => UpdRel x (fun c => decF (fm x.s c) (fb t) z.toNat) (fun j => (cellsTo x.gr.wide x.gr.high 64).take j) (cellsTo x.gr.wide x.gr.high 64).length w5 b vj wr) (fun vj _ => (cellsTo x.gr.wide x.gr.high 64).length - (intOf vj).toNat)
  case atStart => exact ⟨0, x.s, by omega, rfl, rfl, HX5.out, grown_refl _ _⟩
  case round =>
    obtain ⟨j, s', hj, rfl, hfs, hO, hgr⟩ := hrel
    have HGR := Lib.hid hgr
    have HFS := Lib.hid hfs
    have HO := Lib.hid hO
    clear hgr hfs hO
    by_cases hlt : j < (cellsTo x.gr.wide x.gr.high 64).length
    · obtain ⟨c, hc⟩ : ∃ c, (cellsTo x.gr.wide x.gr.high 64)[j]? = some c := ⟨_, List.getElem?_eq_getElem hlt⟩
      have hc64 : c < 64 := cellsTo_lt (List.mem_of_getElem? hc)
      have hj64 : j < 64 := by omega
      obtain ⟨gq, rfl, hq1, hq2, hq3⟩ := HL.out j c hc
      have hcell := cell_grown hq3 HGR.out (by omega)
      have HC := Lib.hid hc
      have HS : Hid (fb (s' c) = fm x.s c) := by
        show _ = _
        rw [← fm_of hc64, HFS.out]; exact updL_same (cells_nodup _ _ _) hc
      have j1 : (j : Int) < ((cellsTo x.gr.wide x.gr.high 64).length : Int) := by omega
      have c1 : (c : Int) < 64 := by omega
      have q2 := (BAt.of_blk HO.out).s hc64
      clear hq3 hc
      go_wp2_with fail
      refine (decayed_any (s' c) t z wr z0 z1).mono ?_
      rintro e w6 ⟨r6, rfl, hr6, hb6⟩
      have HV : Hid (fb r6 = decF (fm x.s c) (fb t) z.toNat) := by show _ = _; rw [hr6.out, HS.out]
      have hO6 := HO.out.later hb6
      have HG6 := Lib.hid (grown_trans HGR.out (grown_below hb6))
      clear hr6 hb6 q2
      go_wp2_with ((with_reducible refine wpList_gateS ?_); refine wpList_setS hO6 hc64 rfl rfl ?_)
      intro w7 s7 b7 k7
      have H7 := Lib.hid b7
      have HG7 := Lib.hid (grown_trans HG6.out k7)
      clear b7 k7 hO6
      go_wp2_with fail
      go_roundw
      case rel =>
        refine ⟨j + 1, upd s' c r6, by omega, by go_num, ?_, H7.out, HG7.out⟩
        dsimp only
        rw [take_more HC.out, updL_snoc, fm_upd hc64, HFS.out, HV.out]
      case measure => simp [intOf]; omega
    · have hjn : j = (cellsTo x.gr.wide x.gr.high 64).length := by omega
      have j1 : ¬ (j : Int) < ((cellsTo x.gr.wide x.gr.high 64).length : Int) := by omega
      have HN : Hid (({ x with s := s' } : Br).n = decN x.n (fb t) z.toNat) := by
        show _ = _
        have := HFS.out
        dsimp only at this
        rw [List.take_of_length_le (Nat.le_of_eq hjn.symm)] at this
        exact n_of this
      have HBw := Lib.hid (below_grown HB5.out HGR.out HB5.out.size hb_)
      have hRw := HR5.out.grown HGR.out (by omega)
      clear hjn
      go_wp2_with (first | ((with_reducible refine wpList_getB HO.out ?_ ?_); rfl) | ((with_reducible refine wpList_putB (x := { x with s := s' }) hRw ?_ ?_ ?_); rfl; rfl))
      intro w20 s20 b20 k20
      go_wp2_with fail
      refine ret_cell2 rfl rfl (loadB b20) rfl ⟨{ x with s := s' }, by rw [HW.out]; rfl, by rw [HW.out]; exact HN.out, ?_⟩
      exact below_grown HBw.out k20 HBw.out.size hwR

end Go.Proofs.Ytfcphfdfpjmgiaa

namespace Go.Proofs.Ytfcphfdfpjmgiaa
open Go.RowKit

set_option maxRecDepth 100000 in
set_option maxHeartbeats 800000 in
theorem DecayedNumber_any (a q : Nat) (z : Int) (w : World) (hk : keepB (fb a) (fb q) z = true) :
    Calls Try.prog 56 #[.float .f32 a, .float .f32 q, .int .i64 z] w (RetFI (decF (fb a) (fb q) z.toNat) 0 w) := by
  have HK := Lib.hid hk
  obtain ⟨z0, z1⟩ := keepB_time hk
  clear hk
  go_enter Try.func56, Try.ntmps56
  go_wp2_with fail
  refine (decayOk_any a q z w).mono ?_
  rw [HK.out]
  rintro e w1 ⟨rfl, hb1⟩
  have HB := Lib.hid hb1
  clear hb1
  go_wp2_with fail
  refine (decayed_any a q z w1 z0 z1).mono ?_
  rintro e w2 ⟨r, rfl, hr, hb2⟩
  have HB2 := Lib.hid (HB.out.trans (hb2.mono HB.out.size))
  have HR := Lib.hid hr
  clear hb2 hr
  go_wp2_with fail
  go_ret2
  exact ⟨r, rfl, HR.out, HB2.out⟩
set_option maxRecDepth 100000 in
set_option maxHeartbeats 800000 in
theorem specDecayedNumber_any (a q : Nat) (z : Int) (w : World) (hk : keepB (fb a) (fb q) z = true) :
    Calls Try.prog 57 #[.float .f32 a, .float .f32 q, .int .i64 z] w (RetFI (decF (fb a) (fb q) z.toNat) 0 w) := by
  have HK := Lib.hid hk
  obtain ⟨z0, z1⟩ := keepB_time hk
  clear hk
  go_enter Try.func57, Try.ntmps57
  go_wp2_with fail
  refine (l05Keep_any a q z w).mono ?_
  rw [HK.out]
  rintro e w1 ⟨rfl, hb1⟩
  have HB := Lib.hid hb1
  clear hb1
  go_wp2_with fail
  refine (l05Decay_any a q z w1 z0 z1).mono ?_
  rintro e w2 ⟨r, rfl, hr, hb2⟩
  have HB2 := Lib.hid (HB.out.trans (hb2.mono HB.out.size))
  have HR := Lib.hid hr
  clear hb2 hr
  go_wp2_with fail
  go_ret2
  exact ⟨r, rfl, HR.out, HB2.out⟩

/-- When nothing is left, with a code. -/
def goneR (a q : F) (most : Nat) : Int × Int := match (List.range (most + 1)).find? (fun n => feq (decF a q n) (some 0)) with | some n => ((n : Int), 0) | none => (0, 7)
theorem gone_some {a q : F} {most n : Nat} (hn : n ≤ most) (h : feq (decF a q n) (some 0) = true) (h2 : ∀ j, j < n → feq (decF a q j) (some 0) = false) : goneR a q most = ((n : Int), 0) := by
  unfold goneR
  rw [(List.find?_range_eq_some).2 ⟨h, List.mem_range.2 (by omega), fun j hj => by rw [h2 j hj]; rfl⟩]
theorem gone_none {a q : F} {most : Nat} (h2 : ∀ j, j < most + 1 → feq (decF a q j) (some 0) = false) : goneR a q most = (0, 7) := by
  unfold goneR
  rw [List.find?_range_eq_none.2 fun j hj => by rw [h2 j hj]; rfl]
def GoneRel (a q : F) (most : Nat) (w : World) (v0 v8 : Value) (wr : World) : Prop :=
  ∃ j r : Nat, j ≤ most + 1 ∧ v8 = .int .i64 j ∧ v0 = .float .f32 r ∧ Is r (decF a q j) ∧ (∀ i, i < j → feq (decF a q i) (some 0) = false) ∧ Below w.heap.size w wr
def RetII (r : Int × Int) (w : World) (e : Ending) (w' : World) : Prop := e = .returned (.tuple #[.int .i64 r.1, .int .i64 r.2]) ∧ Below w.heap.size w w'
set_option maxRecDepth 100000 in
set_option maxHeartbeats 800000 in
theorem GoneAfter_any (a q : Nat) (w : World) (hk : keepB (fb a) (fb q) (400 : Nat) = true) :
    Calls Try.prog 58 #[.float .f32 a, .float .f32 q, .int .i64 400] w (RetII (goneR (fb a) (fb q) 400) w) := by
  have HK := Lib.hid hk
  have heq := order_eq
  clear hk
  go_enter Try.func58, Try.ntmps58
  go_wp2_with fail
  refine (decayOk_any a q 400 w).mono ?_
  rw [show keepB (fb a) (fb q) 400 = true from HK.out]
  rintro e w1 ⟨rfl, hb1⟩
  have HB := Lib.hid hb1
  clear hb1
  go_wp2_with fail
  go_loopw [0, 16] (fun v0 v8 wr => GoneRel (fb a) (fb q) 400 w v0 v8 wr) (fun _ v8 _ => 401 - (intOf v8).toNat)
  case atStart => exact ⟨0, a, by omega, rfl, rfl, rfl, fun i hi => absurd hi (by omega), HB.out⟩
  case round =>
    obtain ⟨j, r0, hj, rfl, rfl, hr0, hall, hB⟩ := hrel
    have HR0 := Lib.hid hr0
    have HBr := Lib.hid hB
    have HA := Lib.hid hall
    clear hr0 hB hall
    by_cases hlt : j < 401
    · have j1 : (j : Int) < 401 := by omega
      cases hz : feq (fb r0) (fb 0)
      · have HZ : Hid (feq (decF (fb a) (fb q) j) (some 0) = false) := by show _ = _; rw [← HR0.out.out, ← fb0]; exact hz
        go_wp2_with (first | ((with_reducible refine wpList_gate ?_); refine wpList_arith _ _ rfl rfl rfl ?_; intro r n hr))
        go_roundw
        case rel => exact ⟨j + 1, _, by omega, by go_num, rfl, hr.op HR0.out rfl, fun i hi => by rcases Nat.lt_or_eq_of_le (Nat.le_of_lt_succ hi) with h | h; exact HA.out i h; rw [h]; exact HZ.out, below_drawn HBr.out _⟩
        case measure => simp [intOf]; omega
      · have HZ : Hid (feq (decF (fb a) (fb q) j) (some 0) = true) := by show _ = _; rw [← HR0.out.out, ← fb0]; exact hz
        go_wp2_with fail
        go_ret2
        exact ⟨by rw [gone_some (by omega) HZ.out HA.out]; rfl, HBr.out⟩
    · have j1 : ¬ (j : Int) < 401 := by omega
      obtain rfl : j = 401 := by omega
      go_wp2_with fail
      go_ret2
      exact ⟨by rw [gone_none HA.out]; rfl, HBr.out⟩
set_option maxRecDepth 100000 in
set_option maxHeartbeats 800000 in
theorem specGoneAfter_any (a q : Nat) (w : World) (hk : keepB (fb a) (fb q) (400 : Nat) = true) :
    Calls Try.prog 59 #[.float .f32 a, .float .f32 q, .int .i64 400] w (RetII (goneR (fb a) (fb q) 400) w) := by
  have HK := Lib.hid hk
  have heq := order_eq
  clear hk
  go_enter Try.func59, Try.ntmps59
  go_wp2_with fail
  refine (l05Keep_any a q 400 w).mono ?_
  rw [show keepB (fb a) (fb q) 400 = true from HK.out]
  rintro e w1 ⟨rfl, hb1⟩
  have HB := Lib.hid hb1
  clear hb1
  go_wp2_with fail
  go_loopw [0, 8] (fun v0 v8 wr => GoneRel (fb a) (fb q) 400 w v0 v8 wr) (fun _ v8 _ => 401 - (intOf v8).toNat)
  case atStart => exact ⟨0, a, by omega, rfl, rfl, rfl, fun i hi => absurd hi (by omega), HB.out⟩
  case round =>
    obtain ⟨j, r0, hj, rfl, rfl, hr0, hall, hB⟩ := hrel
    have HR0 := Lib.hid hr0
    have HBr := Lib.hid hB
    have HA := Lib.hid hall
    clear hr0 hB hall
    by_cases hlt : j < 401
    · have j1 : (j : Int) ≤ 400 := by omega
      cases hz : feq (fb r0) (fb 0)
      · have HZ : Hid (feq (decF (fb a) (fb q) j) (some 0) = false) := by show _ = _; rw [← HR0.out.out, ← fb0]; exact hz
        go_wp2_with (first | ((with_reducible refine wpList_gate ?_); refine wpList_arith _ _ rfl rfl rfl ?_; intro r n hr))
        go_roundw
        case rel => exact ⟨j + 1, _, by omega, by go_num, rfl, hr.op HR0.out rfl, fun i hi => by rcases Nat.lt_or_eq_of_le (Nat.le_of_lt_succ hi) with h | h; exact HA.out i h; rw [h]; exact HZ.out, below_drawn HBr.out _⟩
        case measure => simp [intOf]; omega
      · have HZ : Hid (feq (decF (fb a) (fb q) j) (some 0) = true) := by show _ = _; rw [← HR0.out.out, ← fb0]; exact hz
        go_wp2_with fail
        go_ret2
        exact ⟨by rw [gone_some (by omega) HZ.out HA.out]; rfl, HBr.out⟩
    · have j1 : ¬ (j : Int) ≤ 400 := by omega
      obtain rfl : j = 401 := by omega
      go_wp2_with fail
      go_ret2
      exact ⟨by rw [gone_none HA.out]; rfl, HBr.out⟩
end Go.Proofs.Ytfcphfdfpjmgiaa
