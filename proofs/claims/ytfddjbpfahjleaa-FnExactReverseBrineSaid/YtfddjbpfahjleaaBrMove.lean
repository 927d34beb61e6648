/- A brine behind a step: both sides. -/
import Derived.Test.YtfddjbpfahjleaaBrSmall
import Derived.Test.YtfddjbpfahjleaaBrTo
import Derived.Test.YtfddjbpfahjleaaTail
namespace Go.Proofs.Ytfddjbpfahjleaa
open Go.RowKit

def updL (f d : Nat → F) (l : List Nat) : Nat → F := l.foldl (fun g c => upd g c (d c)) f
theorem updL_snoc (f d : Nat → F) (l : List Nat) (c : Nat) : updL f d (l ++ [c]) = upd (updL f d l) c (d c) := by simp [updL]
theorem updL_out {f d : Nat → F} {c : Nat} : ∀ {l : List Nat}, c ∉ l → updL f d l c = f c := by
  intro l
  unfold updL
  induction l generalizing f with
  | nil => intro _; rfl
  | cons x l ih =>
    intro h
    simp only [List.mem_cons, not_or] at h
    rw [List.foldl_cons, ih h.2]
    exact if_neg h.1
theorem not_take {l : List Nat} (h : l.Nodup) {j c : Nat} (hc : l[j]? = some c) : c ∉ l.take j := by
  intro hm
  have e : l = l.take j ++ c :: l.drop (j + 1) := by
    obtain ⟨hj, he⟩ := List.getElem?_eq_some_iff.1 hc
    rw [← he, ← List.drop_eq_getElem_cons hj, List.take_append_drop]
  rw [e, List.nodup_append] at h
  exact h.2.2 c hm c (by simp) rfl
theorem cells_nodup (W H : Int) (k : Nat) : (cellsTo W H k).Nodup := by
  unfold cellsTo; exact List.Pairwise.filter _ List.nodup_range
theorem free_nodup (m : M) (k : Nat) : (freeL m k).Nodup := by unfold freeL; exact List.Pairwise.filter _ (cells_nodup _ _ _)

def mvS (n : N) (t : F) (c : Nat) : F := fadd (fmul (n.s c) (fsub (some 1065353216) (partF n c t))) (fdiv (fmul t (inF n c)) n.room)
def mvT (n : N) (t : F) : N := { n with s := updL n.s (mvS n t) (freeL n.g 64) }
def mvR (n : N) (t : F) : N × Int := if smallB n t then (if okB (mvT n t) then (mvT n t, 0) else (B0.n, 4)) else (B0.n, 2)
theorem n_of {x : Br} {s' : Nat → Nat} {f : Nat → F} (h : fm s' = f) : ({ x with s := s' } : Br).n = { x.n with s := f } := by subst h; rfl

/-- A brine and a code are handed back; the brine keeps its ground where the code is 0. -/
def RetBr (r : N × Int) (g : G) (w : World) (e : Ending) (w' : World) : Prop :=
  ∃ y : Br, e = .returned (.tuple #[.agg (arrB y), .int .i64 r.2]) ∧ y.n = r.1 ∧ (r.2 = 0 → y.gr = g) ∧ Below w.heap.size w w'

def UpdRel (x : Br) (d : Nat → F) (f : Nat → List Nat) (most : Nat) (w : World) (O : Nat) (v : Value) (wr : World) : Prop :=
  ∃ (j : Nat) (s' : Nat → Nat), j ≤ most ∧ v = .int .i64 j ∧ fm s' = updL (fm x.s) d (f j) ∧ Blk wr O (arrB { x with s := s' }) 36 ∧ w.grownBy wr (some O)

theorem soft_getB {ops : Array Oper} {S : FuncId → Array Value → Value → Prop} {Q : Act → Prop} {a : Act} {rest : List Oper} {dst : Option Tmp} {ty : TypeId} {X : Operand} {pos : String} {after : Array Edge} {w : World} {B : Nat} {t : TypeId} {g : Br}
    (hg : Blk w B (arrB g) t) (hx : a.eval X = .pointer (some ⟨B, 0, none⟩)) (h : wpSoft Try.prog ops (InExt w) S Q rest (a.put dst (.agg (arrB g)))) :
    wpSoft Try.prog ops (InExt w) S Q (⟨dst, .load 36 X, ty, pos, after, none⟩ :: rest) a :=
  soft_value (.agg (arrB g)) rfl (fun w' hw' => by
    have := loadB (hg.later hw'.below)
    simp only [execOp, hx, Instr.loadAt, Instr.sureAddr]
    simp [this]) h

set_option maxRecDepth 100000 in
set_option maxHeartbeats 3200000 in
theorem moved_any (b t : Nat) (tb : TypeId) (x : Br) (w : World) (hs : x.gr.Sane) (hx : x.gr.Fx) (hX : Blk w b (arrB x) tb) :
    Calls Try.prog 74 #[.pointer (some ⟨b, 0, none⟩), .float .f32 t] w (RetBr (mvR x.n (fb t)) x.gr w) := by
  have hr := hs.rng
  cases hsm : smallB x.n (fb t)
  · have HW : Hid (mvR x.n (fb t) = (B0.n, 2)) := by show _ = _; unfold mvR; rw [hsm]; rfl
    have HSM := Lib.hid hsm
    clear hsm
    go_enter Try.func74, Try.ntmps74
    go_wp2_with (with_reducible refine wpList_new newB ?_)
    intro R wR hR1 hR2 hR3 hR4
    go_wp2_with fail
    refine (small_any b t x wR hs (BAt.of_blk (hX.later hR4))).mono ?_
    rw [HSM.out]
    rintro e w1 ⟨rfl, hb1⟩
    have HR1 := hR3.later hb1
    have HB1 := Lib.hid (hR4.trans (hb1.mono hR4.size))
    clear hR3 hR4 hb1
    go_wp2_with (first | (with_reducible refine wpList_zero (zeroB _) ?_) | ((with_reducible refine wpList_putB (x := B0) HR1 ?_ ?_ ?_); rfl; rfl))
    intro w20 s20 b20 k20
    go_wp2_with fail
    refine ret_cell2 rfl rfl (loadB b20) rfl ⟨B0, by rw [HW.out]; rfl, by rw [HW.out], fun h => absurd h (by rw [HW.out]; decide), ?_⟩
    exact below_grown HB1.out k20 HB1.out.size hR1
  · have HSM := Lib.hid hsm
    have HW0 : Hid (mvR x.n (fb t) = (if okB (mvT x.n (fb t)) then (mvT x.n (fb t), 0) else (B0.n, 4))) := by show _ = _; unfold mvR; rw [hsm]; rfl
    clear hsm
    go_enter Try.func74, Try.ntmps74
    go_wp2_with (with_reducible refine wpList_new newB ?_)
    intro R wR hR1 hR2 hR3 hR4
    have hbw : b < w.heap.size := hX.lt
    have hXR := hX.later hR4
    go_wp2_with fail
    refine (small_any b t x wR hs (BAt.of_blk hXR)).mono ?_
    rw [HSM.out]
    rintro e w1 ⟨rfl, hb1⟩
    have hR1' := hR3.later hb1
    have hX1 := hXR.later hb1
    have HB1 := Lib.hid (hR4.trans (hb1.mono hR4.size))
    have hRl : R < w1.heap.size := hR1'.lt
    clear hR3 hR4 hb1 hX hXR
    go_wp2_with (first | ((with_reducible refine wpList_getB hX1 ?_ ?_); rfl) | (with_reducible refine wpList_new newB ?_))
    intro O wO hO1 hO2 hO3 hO4
    have hRO := hR1'.later hO4
    have hXO := hX1.later hO4
    have hbO : b < O := by have := hX1.lt; omega
    have HBO := Lib.hid (HB1.out.trans (hO4.mono HB1.out.size))
    go_wp2_with ((with_reducible refine wpList_putB (x := x) hO3 ?_ ?_ ?_); rfl; rfl)
    intro w2 s2 b2 k2
    have hX2 := hXO.grown k2 (by omega)
    have hR2' := hRO.grown k2 (by omega)
    have HB2 := Lib.hid (below_grown HBO.out k2 HBO.out.size (by have := HB1.out.size; omega))
    clear hO3 hO4 hRO hXO k2 hX1 hR1'
    go_wp2_with fail
    refine (free_any b 0 x.gr w2 hs (BAt.of_blk hX2).g).mono ?_
    rintro e w3 ⟨v, rfl, hown, hb3⟩
    obtain ⟨aL, cap, rfl, hL⟩ := list_form hown
    have HL := Lib.hid hL
    have HX3 := Lib.hid (BAt.of_blk (hX2.later hb3))
    have HR3 := Lib.hid (hR2'.later hb3)
    have HO3 := Lib.hid (b2.later hb3)
    have HB3 := Lib.hid (HB2.out.trans (hb3.mono HB2.out.size))
    have hlen := freeL_length x.gr.m 64
    have hwO : w.heap.size ≤ O := by have := HB1.out.size; omega
    have hOl : O < w2.heap.size := b2.lt
    clear hL hown hb3 hX2 hR2' b2
    go_wp2_with fail
    go_loopw [23] (fun v23 wr => UpdRel x (mvS x.n (fb t)) (fun j => (freeL x.gr.m 64).take j) (freeL x.gr.m 64).length w3 O v23 wr) (fun v23 _ => (freeL x.gr.m 64).length - (intOf v23).toNat)
    case atStart => exact ⟨0, x.s, by omega, rfl, rfl, HO3.out, grown_refl _ _⟩
    case round =>
      obtain ⟨j, s', hj, rfl, hfs, hO, hgr⟩ := hrel
      have HGR := Lib.hid hgr
      have HFS := Lib.hid hfs
      have HO := Lib.hid hO
      have HX := Lib.hid (HX3.out.grown hgr (by omega))
      clear hgr hfs hO
      by_cases hlt : j < (freeL x.gr.m 64).length
      · obtain ⟨c, hc⟩ : ∃ c, (freeL x.gr.m 64)[j]? = some c := ⟨_, List.getElem?_eq_getElem hlt⟩
        have hc64 : c < 64 := freeL_lt (List.mem_of_getElem? hc)
        have hj64 : j < 64 := by omega
        obtain ⟨gq, rfl, hq1, hq2, hq3⟩ := HL.out j c hc
        have hcell := cell_grown hq3 HGR.out (by omega)
        have HC := Lib.hid hc
        have j1 : (j : Int) < ((freeL x.gr.m 64).length : Int) := by omega
        have c1 : (c : Int) < 64 := by omega
        clear hq3 hc
        go_wp2_with fail
        have q1 := fun zz => ext_cell wr zz HX.out.room
        refine wp_soft (SF (inF x.n c)) (by kernel_rfl) (by kernel_rfl) ?_
        repeat (first | (refine soft_arith (fun _ n h => h.drewN n) _ _ rfl rfl rfl ?_; intro r7 hr7) | (refine soft_step (fun K hK => ?_); go_simp; (try go_bits); refine hK _ ?_; clear hK K) | (refine soft_step (fun K hK => ?_); go_simp; refine ⟨_, _, ⟨rfl, rfl⟩, fun zz => ?_, ?_⟩; ((with_reducible refine (inB_any b c x _ hc64 hs (HX.out.below (ext_below _ zz))).mono ?_); rintro e w1 ⟨r, he, hr, hb⟩; exact ⟨_, he, ⟨r, rfl, hr⟩, hb⟩); rintro v ⟨ri, rfl, hri⟩; refine hK _ ?_; clear hK K))
        rename_i rm hm
        refine soft_nil ?_
        rintro w4 hw4
        have HB4 := Lib.hid hw4.below
        have HX4 := Lib.hid (HX.out.below hw4.below)
        have HO4 := Lib.hid (HO.out.later hw4.below)
        have HC7 : Hid (Is r7 (fdiv (fmul (fb t) (inF x.n c)) (fb x.room))) := by
          show fb r7 = _
          rw [hr7.out, fop, hm.out, fop, hri.out]
        clear hw4 q1 hr7 hm hri
        go_wp2_with fail
        have q2 := fun zz => ext_cell w4 zz (HX4.out.s hc64)
        refine wp_soft_tail 17 (SF (partF x.n c (fb t))) (by kernel_rfl) (by kernel_rfl) ?_
        simp only [List.take_succ_cons, List.take_zero, List.drop_succ_cons, List.drop_zero]
        repeat (first | (refine soft_arith (fun _ n h => h.drewN n) _ _ rfl rfl rfl ?_; intro r8 hr8) | (refine soft_step (fun K hK => ?_); go_simp; (try go_bits); refine hK _ ?_; clear hK K) | (refine soft_step (fun K hK => ?_); go_simp; refine ⟨_, _, ⟨rfl, rfl⟩, fun zz => ?_, ?_⟩; ((with_reducible refine (part_any b c t x _ hc64 hs (HX4.out.below (ext_below _ zz))).mono ?_); rintro e w1 ⟨r, he, hr, hb⟩; exact ⟨_, he, ⟨r, rfl, hr⟩, hb⟩); rintro v ⟨rp, rfl, hrp⟩; refine hK _ ?_; clear hK K))
        rename_i rs hrs rq hrq
        refine soft_nil ?_
        rintro w5 hw5
        have HB5 := Lib.hid hw5.below
        have hO5 := HO4.out.later hw5.below
        have HV : Hid (fb r8 = mvS x.n (fb t) c) := by
          show fb r8 = fadd (fmul (fm x.s c) (fsub (some 1065353216) (partF x.n c (fb t)))) (fdiv (fmul (fb t) (inF x.n c)) (fb x.room))
          rw [hr8.out, fop, hrq.out, fop, hrs.out, fop, hrp.out, HC7.out.out, fm_of hc64, fbOne]
        clear hw5 q2 hr8 hrq hrs hrp
        go_wp2_with ((with_reducible refine wpList_gateS ?_); refine wpList_setS hO5 hc64 rfl rfl ?_)
        intro w6 s6 b6 k6
        have H6 := Lib.hid b6
        have HG6 := Lib.hid ((grown_trans (grown_trans (grown_trans HGR.out (grown_below HB4.out)) (grown_below HB5.out)) k6 : w3.grownBy w6 (some O)))
        clear b6 k6 hO5
        go_wp2_with fail
        go_roundw
        case rel =>
          refine ⟨j + 1, upd s' c r8, by omega, by go_num, ?_, H6.out, HG6.out⟩
          dsimp only
          rw [take_more HC.out, updL_snoc, fm_upd hc64, HFS.out, HV.out]
        case measure => simp [intOf]; omega
      · have hjn : j = (freeL x.gr.m 64).length := by omega
        have j1 : ¬ (j : Int) < ((freeL x.gr.m 64).length : Int) := by omega
        have HN : Hid (({ x with s := s' } : Br).n = mvT x.n (fb t)) := by
          show _ = _
          have := HFS.out
          dsimp only at this
          rw [List.take_of_length_le (Nat.le_of_eq hjn.symm)] at this
          exact n_of this
        have HBw := Lib.hid (below_grown HB3.out HGR.out HB3.out.size hwO)
        have hRw := HR3.out.grown HGR.out (by omega)
        clear hjn
        cases hok : okB (mvT x.n (fb t))
        · have HOK := Lib.hid hok
          have HW : Hid (mvR x.n (fb t) = (B0.n, 4)) := by show _ = _; rw [HW0.out, hok]; rfl
          clear hok
          go_wp2_with ((with_reducible refine wpList_getB HO.out ?_ ?_); rfl)
          refine (ValidBrine_any { x with s := s' } wr hr hx).mono ?_
          rw [HN.out, HOK.out]
          rintro e w7 ⟨rfl, hb7⟩
          have hR7 := hRw.later hb7
          have hO7 := HO.out.later hb7
          have HB7 := Lib.hid (HBw.out.trans (hb7.mono HBw.out.size))
          clear hb7
          go_wp2_with (first | (with_reducible refine wpList_zero (zeroB _) ?_) | ((with_reducible refine wpList_putB (x := B0) hR7 ?_ ?_ ?_); rfl; rfl))
          intro w20 s20 b20 k20
          go_wp2_with fail
          refine ret_cell2 rfl rfl (loadB b20) rfl ⟨B0, by rw [HW.out]; rfl, by rw [HW.out], fun h => absurd h (by rw [HW.out]; decide), ?_⟩
          exact below_grown HB7.out k20 HB7.out.size hR1
        · have HOK := Lib.hid hok
          have HW : Hid (mvR x.n (fb t) = (mvT x.n (fb t), 0)) := by show _ = _; rw [HW0.out, hok]; rfl
          clear hok
          go_wp2_with ((with_reducible refine wpList_getB HO.out ?_ ?_); rfl)
          refine (ValidBrine_any { x with s := s' } wr hr hx).mono ?_
          rw [HN.out, HOK.out]
          rintro e w7 ⟨rfl, hb7⟩
          have hR7 := hRw.later hb7
          have hO7 := HO.out.later hb7
          have HB7 := Lib.hid (HBw.out.trans (hb7.mono HBw.out.size))
          clear hb7
          go_wp2_with (first | ((with_reducible refine wpList_getB hO7 ?_ ?_); rfl) | ((with_reducible refine wpList_putB (x := { x with s := s' }) hR7 ?_ ?_ ?_); rfl; rfl))
          intro w20 s20 b20 k20
          go_wp2_with fail
          refine ret_cell2 rfl rfl (loadB b20) rfl ⟨{ x with s := s' }, by rw [HW.out]; rfl, by rw [HW.out]; exact HN.out, fun _ => rfl, ?_⟩
          exact below_grown HB7.out k20 HB7.out.size hR1

/-- A brine and whether it is valid. -/
def RetBk (n : N) (g : G) (w : World) (e : Ending) (w' : World) : Prop :=
  ∃ y : Br, e = .returned (.tuple #[.agg (arrB y), .bool (okB n)]) ∧ y.n = n ∧ y.gr = g ∧ Below w.heap.size w w'

set_option maxRecDepth 100000 in
set_option maxHeartbeats 3200000 in
theorem l05Move_any (b t : Nat) (tb : TypeId) (x : Br) (w : World) (hs : x.gr.Sane) (hx : x.gr.Fx) (hX : Blk w b (arrB x) tb) :
    Calls Try.prog 72 #[.pointer (some ⟨b, 0, none⟩), .float .f32 t] w (RetBk (mvT x.n (fb t)) x.gr w) := by
  have hr := hs.rng
  go_enter Try.func72, Try.ntmps72
  go_wp2_with (with_reducible refine wpList_new newB ?_)
  intro R wR hR1 hR2 hR3 hR4
  have hbw : b < w.heap.size := hX.lt
  have hX1 := hX.later hR4
  go_wp2_with (first | ((with_reducible refine wpList_getB hX1 ?_ ?_); rfl) | (with_reducible refine wpList_new newB ?_))
  intro O wO hO1 hO2 hO3 hO4
  have hRO := hR3.later hO4
  have hXO := hX1.later hO4
  have hbO : b < O := by have := hX1.lt; omega
  have HBO := Lib.hid (hR4.trans (hO4.mono hR4.size))
  have hwO : w.heap.size ≤ O := by have := hR4.size; omega
  go_wp2_with ((with_reducible refine wpList_putB (x := x) hO3 ?_ ?_ ?_); rfl; rfl)
  intro w3 s2 b2 k2
  have HX3 := Lib.hid (BAt.of_blk (hXO.grown k2 (by omega)))
  have HR3 := Lib.hid (hRO.grown k2 (by omega))
  have HO3 := Lib.hid b2
  have HB3 := Lib.hid (below_grown HBO.out k2 HBO.out.size (by omega))
  have hOl : O < w3.heap.size := b2.lt
  clear hO3 hO4 hRO hXO k2 hX1 hR3 hR4 hX b2
  go_wp2_with fail
  go_loopw [7] (fun v7 wr => UpdRel x (mvS x.n (fb t)) (fun j => freeL x.n.g j) 64 w3 O v7 wr) (fun v7 _ => 64 - (intOf v7).toNat)
  case atStart => exact ⟨0, x.s, by omega, rfl, rfl, HO3.out, grown_refl _ _⟩
  case round =>
    obtain ⟨k, s', hk, rfl, hfs, hO, hgr⟩ := hrel
    have HGR := Lib.hid hgr
    have HFS := Lib.hid hfs
    have HO := Lib.hid hO
    have HX := Lib.hid (HX3.out.grown hgr (by omega))
    clear hgr hfs hO
    by_cases hlt : k < 64
    · cases hh : hasB x.gr.wide x.gr.high k
      · have HH := Lib.hid hh
        have HF : Hid (fixB x.gr.fixed k = fixB x.gr.fixed k) := rfl
        clear hh
        go_wp2_with (go_at_call 63; refine (l05Free_any b k x _ hlt hs HX.out).mono ?_; rw [HH.out, HF.out]; rintro e w' ⟨rfl, rfl⟩)
        go_roundw
        case rel => exact ⟨k + 1, s', by omega, by go_num, by dsimp only; rw [freeL_no (m := x.n.g) HH.out]; exact HFS.out, HO.out, HGR.out⟩
        case measure => simp [intOf]; omega
      · have HH := Lib.hid hh
        clear hh
        cases hf : fixB x.gr.fixed k
        rotate_left
        · have HF := Lib.hid hf
          clear hf
          go_wp2_with (go_at_call 63; refine (l05Free_any b k x _ hlt hs HX.out).mono ?_; rw [HH.out, HF.out]; rintro e w' ⟨rfl, rfl⟩)
          go_roundw
          case rel => exact ⟨k + 1, s', by omega, by go_num, by dsimp only; rw [freeL_fix (m := x.n.g) HH.out HF.out]; exact HFS.out, HO.out, HGR.out⟩
          case measure => simp [intOf]; omega
        · have HF := Lib.hid hf
          have k1 : (k : Int) < 64 := by omega
          clear hf
          go_wp2_with (go_at_call 63; refine (l05Free_any b k x _ hlt hs HX.out).mono ?_; rw [HH.out, HF.out]; rintro e w' ⟨rfl, rfl⟩)
          refine (l05Part_any b k t x wr hlt hs HX.out).mono ?_
          rintro e w9 ⟨rp, rfl, hrp, hb9⟩
          have HRP := Lib.hid hrp
          have HG9 := Lib.hid (grown_trans HGR.out (grown_below hb9))
          have HX9 := Lib.hid (HX.out.below hb9)
          have HO9 := Lib.hid (HO.out.later hb9)
          clear hrp hb9 HX HO HGR
          go_wp2_with fail
          have q1 := fun zz => ext_cell w9 zz HX9.out.room
          refine wp_soft (SF (inF x.n k)) (by kernel_rfl) (by kernel_rfl) ?_
          repeat (first | (refine soft_arith (fun _ n h => h.drewN n) _ _ rfl rfl rfl ?_; intro r7 hr7) | (refine soft_step (fun K hK => ?_); go_simp; (try go_bits); refine hK _ ?_; clear hK K) | (refine soft_step (fun K hK => ?_); go_simp; refine ⟨_, _, ⟨rfl, rfl⟩, fun zz => ?_, ?_⟩; ((with_reducible refine (l05In_any b k x _ hlt hs (HX9.out.below (ext_below _ zz))).mono ?_); rintro e w1 ⟨r, he, hr, hb⟩; exact ⟨_, he, ⟨r, rfl, hr⟩, hb⟩); rintro v ⟨ri, rfl, hri⟩; refine hK _ ?_; clear hK K))
          rename_i rm hm
          refine soft_nil ?_
          rintro w4 hw4
          have HB4 := Lib.hid hw4.below
          have HX4 := Lib.hid (HX9.out.below hw4.below)
          have HO4 := Lib.hid (HO9.out.later hw4.below)
          have HC7 : Hid (Is r7 (fdiv (fmul (fb t) (inF x.n k)) (fb x.room))) := by
            show fb r7 = _
            rw [hr7.out, fop, hm.out, fop, hri.out]
          clear hw4 q1 hr7 hm hri
          have q2 := HX4.out.s hlt
          go_wp2_with (first | ((with_reducible refine wpList_gate ?_); refine wpList_arith _ _ rfl rfl rfl ?_; intro r n hr_) | ((with_reducible refine wpList_gateS ?_); refine wpList_setS (HO4.out.drewN _) hlt rfl rfl ?_))
          rename_i rs ns hrs rq nq hrq
          intro w6 s6 b6 k6
          have H6 := Lib.hid b6
          have HG6 := Lib.hid ((grown_trans (grown_trans (grown_trans HG9.out (grown_below HB4.out)) (grown_drewN _ _ _)) k6 : w3.grownBy w6 (some O)))
          have HV : Hid (fb r = mvS x.n (fb t) k) := by
            show fb r = fadd (fmul (fm x.s k) (fsub (some 1065353216) (partF x.n k (fb t)))) (fdiv (fmul (fb t) (inF x.n k)) (fb x.room))
            rw [hr_.out, fop, hrq.out, fop, hrs.out, fop, HRP.out.out, HC7.out.out, fm_of hlt, fbOne]
          clear b6 k6 q2
          go_wp2_with fail
          go_roundw
          case rel =>
            refine ⟨k + 1, upd s' k r, by omega, by go_num, ?_, H6.out, HG6.out⟩
            dsimp only
            rw [freeL_yes (m := x.n.g) HH.out HF.out, updL_snoc, fm_upd hlt, HFS.out, HV.out]
          case measure => simp [intOf]; omega
    · obtain rfl : k = 64 := by omega
      have HN : Hid (({ x with s := s' } : Br).n = mvT x.n (fb t)) := n_of HFS.out
      have HBw := Lib.hid (below_grown HB3.out HGR.out HB3.out.size hwO)
      have HRw := Lib.hid (HR3.out.grown HGR.out (by omega))
      obtain ⟨q, hq⟩ : ∃ q, okB (mvT x.n (fb t)) = q := ⟨_, rfl⟩
      have HQ := Lib.hid hq
      clear hq
      go_wp2_with fail
      refine wp_soft_tail 2 (SV (.bool q)) (by kernel_rfl) (by kernel_rfl) ?_
      simp only [List.take_succ_cons, List.take_zero, List.drop_succ_cons, List.drop_zero]
      repeat (first | ((with_reducible refine soft_getB HO.out ?_ ?_); rfl) | (refine soft_step (fun K hK => ?_); go_simp; refine ⟨_, _, ⟨rfl, rfl⟩, fun zz => ?_, ?_⟩; ((with_reducible refine (l05Ok_any O { x with s := s' } _ hr hx ((BAt.of_blk HO.out).below (ext_below _ zz))).mono ?_); rintro e w1 ⟨he, hb⟩; exact ⟨_, he.trans (ret_bool (by rw [HN.out]; exact HQ.out)), rfl, hb⟩); rintro v rfl; refine hK _ ?_; clear hK K))
      refine soft_nil ?_
      rintro w7 hw7
      have hR7 := HRw.out.later hw7.below
      have HB7 := Lib.hid (HBw.out.trans (hw7.below.mono HBw.out.size))
      clear hw7
      go_wp2_with ((with_reducible refine wpList_putB (x := { x with s := s' }) hR7 ?_ ?_ ?_); rfl; rfl)
      intro w20 s20 b20 k20
      go_wp2_with fail
      refine ret_cell2 rfl rfl (loadB b20) rfl ⟨{ x with s := s' }, by rw [HQ.out]; rfl, HN.out, rfl, ?_⟩
      exact below_grown HB7.out k20 HB7.out.size hR1
end Go.Proofs.Ytfddjbpfahjleaa
