/- Brines compared by the program with themselves; which cells have so much salt. -/
import Derived.Test.YtfcphfdfpjmgiaaLB2
import Derived.Test.YtfcphfdfpjmgiaaSameN
import Derived.Test.YtfcphfdfpjmgiaaBrMost
import Derived.Test.YtfcphfdfpjmgiaaLB2
import Derived.Test.YtfcphfdfpjmgiaaA2S
namespace Go.Proofs.Ytfcphfdfpjmgiaa
open Go.RowKit

set_option maxHeartbeats 400000 in
theorem isNaN_yes (a : Nat) (w : World) (h : fb a = none) : Calls Try.prog 184 #[.float .f32 a] w fun e w' => e = .returned (.bool true) ∧ w = w' := by
  have h1 := fb_none h a
  clear h
  go_enter Try.func184, Try.ntmps184
  go_wp2_with fail
  go_ret
  exact ⟨rfl, rfl⟩
set_option maxHeartbeats 400000 in
theorem isNaN_no (a c : Nat) (w : World) (h : fb a = some c) : Calls Try.prog 184 #[.float .f32 a] w fun e w' => e = .returned (.bool false) ∧ w = w' := by
  obtain ⟨rfl, h1⟩ := fb_some h
  clear h
  go_enter Try.func184, Try.ntmps184
  go_wp2_with fail
  go_ret
  exact ⟨rfl, rfl⟩
set_option maxHeartbeats 400000 in
theorem iSameNumber_eq (a b : Nat) (w : World) (h : fb a = fb b) :
    Calls Try.prog 129 #[.float .f32 a, .float .f32 b] w fun e w' => e = .returned (.bool true) ∧ w = w' := by
  cases hb : fb b with
  | none =>
    have ha := h.trans hb
    clear h
    go_enter Try.func129, Try.ntmps129
    go_wp2_with fail
    refine (isNaN_yes a w ha).mono ?_
    rintro e w1 ⟨rfl, rfl⟩
    go_wp2_with fail
    refine (isNaN_yes a w ha).mono ?_
    rintro e w1 ⟨rfl, rfl⟩
    go_wp2_with fail
    refine (isNaN_yes b w hb).mono ?_
    rintro e w1 ⟨rfl, rfl⟩
    go_wp2_with fail
    go_ret
    exact ⟨rfl, rfl⟩
  | some c =>
    have ha := h.trans hb
    obtain ⟨rfl, _⟩ := fb_some hb
    obtain ⟨rfl, _⟩ := fb_some ha
    have h3 := run_f32bits
    clear h ha
    go_enter Try.func129, Try.ntmps129
    go_wp2_with fail
    refine (isNaN_no _ _ w hb).mono ?_
    rintro e w1 ⟨rfl, rfl⟩
    go_wp2_with fail
    refine (isNaN_no _ _ w hb).mono ?_
    rintro e w1 ⟨rfl, rfl⟩
    go_wp2_with fail
    go_ret
    exact ⟨rfl, rfl⟩

/-- A cell of an array's value. -/
theorem run_indexF (f : Nat → Nat) {i : Nat} (hi : i < 64) (w : World) : (Instr.index 27 (.agg (arrF f)) (.int .i64 i)).run Try.prog w = .ok (.float .f32 (f i)) w := by
  obtain ⟨d, hd, n, el, he, hl, hs⟩ : ∃ d, Try.prog.underlying 27 = some d ∧ ∃ n el, d = .array n el ∧ n = 64 ∧ el = 25 := ⟨_, Try.underlying27, _, _, rfl, rfl, rfl⟩
  subst he hl hs
  have h1 := run_underlying hd w
  have h3 : (sizeOf 25).run Try.prog w = .ok 1 w := by kernel_rfl
  have h4 : (arrF f)[i]? = some (.float .f32 (f i)) := arrF_get f hi
  simp [Instr.index, asIntOf, Sem.run_bind, h1, h3, h4, part, hi]

def CtS (w wL : World) (v : Value) (wr : World) : Prop := ∃ i : Nat, i ≤ 64 ∧ v = .int .i64 i ∧ Below w.heap.size w wr ∧ Below wL.heap.size wL wr
set_option maxRecDepth 100000 in
set_option maxHeartbeats 1600000 in
theorem iSameField_eq (f : Nat → Nat) (w : World) : Calls Try.prog 128 #[.agg (arrF f), .agg (arrF f)] w (RetB true w) := by
  go_enter Try.func128, Try.ntmps128
  go_wp2_with (with_reducible refine wpList_box rfl ?_)
  intro A wA hA1 hA2 hA3 hA4
  go_wp2_with (with_reducible refine wpList_box rfl ?_)
  intro B wB hB1 hB2 hB3 hB4
  have l1 := hA3.later hB4
  have HB := Lib.hid hB3
  have HBel := Lib.hid (below_next hA4 hB4)
  clear hA3 hA4 hB3 hB4
  go_wp2_with ((with_reducible refine wpList_getF l1 ?_ ?_); rfl)
  go_loopw [8] (fun v8 wr => CtS w wB v8 wr) (fun v8 _ => 64 - (intOf v8).toNat)
  case atStart => exact ⟨0, by omega, rfl, HBel.out, Below.refl _ _⟩
  case round =>
    obtain ⟨i, hi, rfl, hB, hB2⟩ := hrel
    have HBr := Lib.hid hB
    have HB2 := Lib.hid hB2
    have HBb := Lib.hid (HB.out.below hB2 HB.out.lt)
    clear hB hB2
    by_cases hlt : i < 64
    · have i1 : (i : Int) < 64 := by omega
      have hg := arrF_get f hlt
      have hc := HBb.out.at hg
      have hix := run_indexF f hlt
      clear l1
      go_wp2_with fail
      refine (iSameNumber_eq (f i) (f i) _ rfl).mono ?_
      rintro e w1 ⟨rfl, rfl⟩
      go_wp2_with fail
      go_roundw
      case rel => exact ⟨i + 1, by omega, by go_num, HBr.out, HB2.out⟩
      case measure => simp [intOf]; omega
    · have i1 : ¬ (i : Int) < 64 := by omega
      go_wp2_with fail
      go_ret
      exact ⟨rfl, HBr.out⟩

section
variable {ops : Array Oper} {Q : Exit → Act → World → Prop} {rest : List Oper} {a : Act} {w : World} {dst : Option Tmp} {ty : TypeId} {X : Operand} {pos : String} {after : Array Edge} {B : Nat} {gd : Option (Nat × Bool)}
theorem wpList_getOn {T : TypeId} {d : TypeDesc} {b o : Nat} {cs : Array Value} (hgd : Region.wanted ⟨dst, .load T X, ty, pos, after, gd⟩ (yielded ops a.tmps) = true) (hu : Try.prog.underlying T = some d) (hd : (match d with | .struct _ | .array _ _ => true | _ => false) = true) (hi : (Try.prog.info? T).map (·.size) = some cs.size)
    (hf : RowAt w b o cs) (hx : a.eval X = .pointer (some ⟨b, o, none⟩))
    (h : wpList Try.prog ops Q rest (a.put dst (.agg cs)) w) : wpList Try.prog ops Q (⟨dst, .load T X, ty, pos, after, gd⟩ :: rest) a w := by
  refine wpList_step fun K hK => ?_
  rw [if_pos hgd]
  unfold Oper.wp
  have : (execOp a.eval ⟨dst, .load T X, ty, pos, after, gd⟩).run Try.prog w = .ok (.value (.agg cs)) w := by
    obtain ⟨ti, h1, h2⟩ := Option.map_eq_some_iff.1 hi
    have hagg : (isAgg T).run Try.prog w = .ok true w := by
      unfold isAgg
      rw [Sem.run_bind, run_underlying hu w]
      cases d <;> simp_all
    have hl := run_loadCells_list (P := Try.prog) w ⟨b, o, none⟩ cs.toList (fun j v hv => by
      rw [Array.getElem?_toList] at hv
      rw [Addr.add_lit]
      exact hf j v hv)
    rw [Array.length_toList] at hl
    simp only [execOp, hx, Instr.loadAt, Instr.sureAddr, loadVar]
    simp [Sem.run_bind, hagg, sizeOf, typeInfo, h1, h2, hl]
  rw [this]
  exact hK _ _ h
theorem wpList_fieldOn {f : Nat → Nat} {b o : Nat} (hgd : Region.wanted ⟨dst, .load 27 X, ty, pos, after, gd⟩ (yielded ops a.tmps) = true) (hf : FAt w b o f) (hx : a.eval X = .pointer (some ⟨b, o, none⟩))
    (h : wpList Try.prog ops Q rest (a.put dst (.agg (arrF f))) w) : wpList Try.prog ops Q (⟨dst, .load 27 X, ty, pos, after, gd⟩ :: rest) a w :=
  wpList_getOn hgd Try.underlying27 rfl (by rw [arrF_size]; exact sizeF) hf.row hx h
end

set_option maxRecDepth 100000 in
set_option maxHeartbeats 1600000 in
theorem iSameGround_eq (g : G) (w : World) : Calls Try.prog 127 #[.agg (arrG g), .agg (arrG g)] w (RetB true w) := by
  go_enter Try.func127, Try.ntmps127
  go_wp2_with (with_reducible refine wpList_box rfl ?_)
  intro A wA hA1 hA2 hA3 hA4
  go_wp2_with (with_reducible refine wpList_box rfl ?_)
  intro B wB hB1 hB2 hB3 hB4
  have HA := Lib.hid (GAt.of_blk (hA3.later hB4))
  have HB := Lib.hid (GAt.of_blk hB3)
  have HBel := Lib.hid (below_next hA4 hB4)
  clear hA3 hA4 hB3 hB4
  have l1 := fc0 HA.out
  have l2 := fc0 HB.out
  go_wp2_with (first | ((with_reducible refine wpList_fieldOn ?_ l1 ?_ ?_); (exact rfl); rfl) | ((with_reducible refine wpList_fieldOn ?_ l2 ?_ ?_); (exact rfl); rfl))
  refine (iSameField_eq g.c _).mono ?_
  rintro e w1 ⟨rfl, hb⟩
  have HA := Lib.hid (HA.out.below hb)
  have HB := Lib.hid (HB.out.below hb)
  have HBel := Lib.hid (below_next HBel.out hb)
  clear hb l1 l2
  have l1 := fg0 HA.out
  have l2 := fg0 HB.out
  go_wp2_with (first | ((with_reducible refine wpList_fieldOn ?_ l1 ?_ ?_); (exact rfl); rfl) | ((with_reducible refine wpList_fieldOn ?_ l2 ?_ ?_); (exact rfl); rfl))
  refine (iSameField_eq g.g _).mono ?_
  rintro e w2 ⟨rfl, hb⟩
  have HA := Lib.hid (HA.out.below hb)
  have HB := Lib.hid (HB.out.below hb)
  have HBel := Lib.hid (below_next HBel.out hb)
  clear hb l1 l2
  have l1 := fh0 HA.out
  have l2 := fh0 HB.out
  go_wp2_with (first | ((with_reducible refine wpList_fieldOn ?_ l1 ?_ ?_); (exact rfl); rfl) | ((with_reducible refine wpList_fieldOn ?_ l2 ?_ ?_); (exact rfl); rfl))
  refine (iSameField_eq g.h _).mono ?_
  rintro e w3 ⟨rfl, hb⟩
  have HA := Lib.hid (HA.out.below hb)
  have HB := Lib.hid (HB.out.below hb)
  have HBel := Lib.hid (below_next HBel.out hb)
  clear hb l1 l2
  have a0 := HA.out.wide
  have b0 := HB.out.wide
  have a1 := HA.out.high
  have b1 := HB.out.high
  have a2 := HA.out.fixed
  have b2 := HB.out.fixed
  simp only [Nat.zero_add] at a1 b1 a2 b2
  go_wp2_with fail
  go_ret
  exact ⟨rfl, HBel.out⟩
set_option maxRecDepth 100000 in
set_option maxHeartbeats 1600000 in
theorem iSameBrine_eq (x : Br) (w : World) : Calls Try.prog 34 #[.agg (arrB x), .agg (arrB x)] w (RetB true w) := by
  go_enter Try.func34, Try.ntmps34
  go_wp2_with (with_reducible refine wpList_box rfl ?_)
  intro A wA hA1 hA2 hA3 hA4
  go_wp2_with (with_reducible refine wpList_box rfl ?_)
  intro B wB hB1 hB2 hB3 hB4
  have HA := Lib.hid (BAt.of_blk (hA3.later hB4))
  have HB := Lib.hid (BAt.of_blk hB3)
  have HBel := Lib.hid (below_next hA4 hB4)
  have l1 := HA.out
  have l2 := HB.out
  clear hA3 hA4 hB3 hB4
  go_wp2_with (first | ((with_reducible refine wpList_getBG l1 ?_ ?_); rfl) | ((with_reducible refine wpList_getBG l2 ?_ ?_); rfl))
  refine (iSameGround_eq x.gr _).mono ?_
  rintro e w0 ⟨rfl, hb⟩
  have HA := Lib.hid (HA.out.below hb)
  have HB := Lib.hid (HB.out.below hb)
  have HBel := Lib.hid (below_next HBel.out hb)
  clear hb l1 l2
  have l1 := HA.out.fs
  have l2 := HB.out.fs
  go_wp2_with (first | ((with_reducible refine wpList_fieldOn ?_ l1 ?_ ?_); (exact rfl); rfl) | ((with_reducible refine wpList_fieldOn ?_ l2 ?_ ?_); (exact rfl); rfl))
  refine (iSameField_eq x.s _).mono ?_
  rintro e w1 ⟨rfl, hb⟩
  have HA := Lib.hid (HA.out.below hb)
  have HB := Lib.hid (HB.out.below hb)
  have HBel := Lib.hid (below_next HBel.out hb)
  clear hb l1 l2
  have l1 := HA.out.fp
  have l2 := HB.out.fp
  go_wp2_with (first | ((with_reducible refine wpList_fieldOn ?_ l1 ?_ ?_); (exact rfl); rfl) | ((with_reducible refine wpList_fieldOn ?_ l2 ?_ ?_); (exact rfl); rfl))
  refine (iSameField_eq x.p _).mono ?_
  rintro e w2 ⟨rfl, hb⟩
  have HA := Lib.hid (HA.out.below hb)
  have HB := Lib.hid (HB.out.below hb)
  have HBel := Lib.hid (below_next HBel.out hb)
  clear hb l1 l2
  have a0 := HA.out.room
  have b0 := HB.out.room
  go_wp2_with fail
  refine (iSameNumber_eq x.room x.room _ rfl).mono ?_
  rintro e w4 ⟨rfl, rfl⟩
  go_wp2_with fail
  go_ret
  exact ⟨rfl, HBel.out⟩

/-- The cells that have as much salt. -/
def frontL (n : N) (q : F) : List Nat := (cellsM n.g).filter fun c => fge (n.s c) q
def FrRel (n : N) (q : F) (w wL : World) (v6 v15 : Value) (wr : World) : Prop :=
  ∃ (j : Nat) (x : Int), j ≤ (cellsM n.g).length ∧ v15 = .int .i64 j ∧ v6 = .int .u64 x ∧ x = bitsL (((cellsM n.g).take j).filter fun c => fge (n.s c) q) ∧ Below w.heap.size w wr ∧ Below wL.heap.size wL wr
set_option maxRecDepth 100000 in
set_option maxHeartbeats 3200000 in
theorem FrontOf_any (x : Br) (q : Nat) (w : World) (hr : x.gr.Rng) (hx : x.gr.Fx) (ho : okB x.n = true) :
    Calls Try.prog 41 #[.agg (arrB x), .float .f32 q] w fun e w' => e = .returned (.tuple #[.int .u64 (bitsL (frontL x.n (fb q))), .int .i64 0]) ∧ Below w.heap.size w w' := by
  have HO := Lib.hid ho
  clear ho
  go_enter Try.func41, Try.ntmps41
  go_wp2_with (with_reducible refine wpList_box rfl ?_)
  intro B wB hB1 hB2 hB3 hB4
  have HBB := Lib.hid hB4
  have HG := Lib.hid hB3
  have g1 := hB3
  clear hB3 hB4
  go_wp2_with ((with_reducible refine wpList_getB g1 ?_ ?_); rfl)
  refine (ValidBrine_any x _ hr hx).mono ?_
  rw [HO.out]
  rintro e w2 ⟨rfl, hb2⟩
  have HB2 := Lib.hid (below_next HBB.out hb2)
  have HG2 := Lib.hid (BAt.of_blk (HG.out.later hb2))
  clear hb2 g1
  go_wp2_with fail
  refine (cells_any B 0 x.gr _ hr HG2.out.g).mono ?_
  rintro e w3 ⟨v, rfl, hown, hb3⟩
  obtain ⟨aL, cap, rfl, hL⟩ := list_form hown
  have HL := Lib.hid hL
  have HB3 := Lib.hid (below_next HB2.out hb3)
  have HG3 := Lib.hid (HG2.out.below hb3)
  clear hL hown hb3
  go_wp2_with fail
  go_loopw [6, 15] (fun v6 v15 wr => FrRel x.n (fb q) w w3 v6 v15 wr) (fun _ v15 _ => (cellsM x.n.g).length - (intOf v15).toNat)
  case atStart => exact ⟨0, 0, by omega, rfl, rfl, rfl, HB3.out, Below.refl _ _⟩
  case round =>
    obtain ⟨j, z, hj, rfl, rfl, hz, hB, hBL⟩ := hrel
    have HZ := Lib.hid hz
    have HBr := Lib.hid hB
    have HBL := Lib.hid hBL
    have HG4 := Lib.hid (HG3.out.below hBL)
    clear hz hB
    by_cases hlt : j < (cellsM x.n.g).length
    · obtain ⟨c, hc⟩ : ∃ c, (cellsM x.n.g)[j]? = some c := ⟨_, List.getElem?_eq_getElem hlt⟩
      have hc64 : c < 64 := cellsTo_lt (List.mem_of_getElem? hc)
      have hj64 : j < 64 := Nat.lt_of_lt_of_le hlt (cellsTo_length _ _ _)
      obtain ⟨gq, rfl, hq1, hq2, hq3⟩ := HL.out j c hc
      have hcell := cell_below hBL hq3
      have hlt' : (j : Int) < ((cellsTo x.gr.wide x.gr.high 64).length : Int) := by have : j < (cellsTo x.gr.wide x.gr.high 64).length := hlt; omega
      have c1 : (c : Int) < 64 := by omega
      have hs := HG4.out.s (k := c) hc64
      have hgt := order_gt
      have heq := order_eq
      have HT : Hid (((cellsM x.n.g).take (j + 1)).filter (fun c => fge (x.n.s c) (fb q)) = ((cellsM x.n.g).take j).filter (fun c => fge (x.n.s c) (fb q)) ++ (if fge (fb (x.s c)) (fb q) then [c] else [])) := by
        show _ = _
        rw [take_more hc, List.filter_append]
        congr 1
        have e : x.n.s c = fb (x.s c) := fm_of hc64
        rw [← e]
        cases hcc : fge (x.n.s c) (fb q) <;> simp [hcc]
      clear hc hq1 hq2 hq3 hBL
      cases h1 : fgt (fb (x.s c)) (fb q)
      · cases h2 : feq (fb (x.s c)) (fb q)
        · have HT2 : Hid (((cellsM x.n.g).take (j + 1)).filter (fun c => fge (x.n.s c) (fb q)) = ((cellsM x.n.g).take j).filter (fun c => fge (x.n.s c) (fb q))) := by show _ = _; rw [HT.out]; unfold fge; rw [h1, h2]; simp
          go_wp2_with fail
          go_roundw
          case rel => exact ⟨j + 1, z, by omega, by go_num, rfl, by rw [HT2.out]; exact HZ.out, HBr.out, HBL.out⟩
          case measure => simp [intOf]; omega
        · have HT2 : Hid (((cellsM x.n.g).take (j + 1)).filter (fun c => fge (x.n.s c) (fb q)) = ((cellsM x.n.g).take j).filter (fun c => fge (x.n.s c) (fb q)) ++ [c]) := by show _ = _; rw [HT.out]; unfold fge; rw [h1, h2]; rfl
          go_wp2_with fail
          go_roundw
          case rel => exact ⟨j + 1, _, by omega, by go_num, rfl, by rw [HT2.out, bitsL_snoc, ← HZ.out]; rfl, HBr.out, HBL.out⟩
          case measure => simp [intOf]; omega
      · have HT2 : Hid (((cellsM x.n.g).take (j + 1)).filter (fun c => fge (x.n.s c) (fb q)) = ((cellsM x.n.g).take j).filter (fun c => fge (x.n.s c) (fb q)) ++ [c]) := by show _ = _; rw [HT.out]; unfold fge; rw [h1]; rfl
        go_wp2_with fail
        go_roundw
        case rel => exact ⟨j + 1, _, by omega, by go_num, rfl, by rw [HT2.out, bitsL_snoc, ← HZ.out]; rfl, HBr.out, HBL.out⟩
        case measure => simp [intOf]; omega
    · have hjn : j = (cellsM x.n.g).length := by omega
      have hlt' : ¬ (j : Int) < ((cellsTo x.gr.wide x.gr.high 64).length : Int) := by have : ¬ j < (cellsTo x.gr.wide x.gr.high 64).length := hlt; omega
      have HJ : Hid (z = bitsL (frontL x.n (fb q))) := by show _ = _; rw [HZ.out, hjn, List.take_length]; rfl
      clear hjn hBL
      go_wp2_with fail
      go_ret2
      exact ⟨by rw [HJ.out]; rfl, HBr.out⟩
end Go.Proofs.Ytfcphfdfpjmgiaa
