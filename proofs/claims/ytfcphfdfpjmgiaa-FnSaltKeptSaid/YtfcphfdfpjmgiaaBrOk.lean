/- Whether a brine is valid: both tests. -/
import Derived.Test.YtfcphfdfpjmgiaaBrine
import Derived.Test.YtfcphfdfpjmgiaaPath
namespace Go.Proofs.Ytfcphfdfpjmgiaa
open Go.RowKit

def lroom : F := some 981467136
theorem fbRoom : fb 981467136 = some 981467136 := by decide
/-- A brine is valid. -/
def okB (n : N) : Bool := okI n.g && (fieldTo n.g.wide n.g.high amount n.s 64 && (fieldTo n.g.wide n.g.high amount n.p 64 && (plain n.room && fge n.room lroom)))
theorem ge_least {x : F} (h : plain x = true) : fge x lroom = !flt x lroom := by
  obtain ⟨b, s, m, e, rfl, hd⟩ := plain_num h
  have e1 : Ieee.single.read 981467136 = .number false 8388608 (-33) := by decide
  have : ford (some b) lroom = (Ieee.single.read b).order (Ieee.single.read 981467136) := rfl
  rw [hd, e1] at this
  unfold fge fgt feq flt
  rw [this]
  simp only [Ieee.Datum.order]
  generalize compare (_ : Int) _ = c
  cases c <;> rfl

set_option maxRecDepth 100000 in
set_option maxHeartbeats 800000 in
theorem ValidBrine_any (x : Br) (w : World) (hr : x.gr.Rng) (hx : x.gr.Fx) :
    Calls Try.prog 33 #[.agg (arrB x)] w (RetB (okB x.n) w) := by
  have hlt' := order_lt
  have hgt' := order_gt
  have heq' := order_eq
  cases e0 : okI x.gr.m
  · have HW : Hid (okB x.n = false) := by show okB _ = _; unfold okB; rw [show okI x.n.g = false from e0]; rfl
    have E0 := Lib.hid e0
    clear e0
    go_enter Try.func33, Try.ntmps33
    go_wp2_with (with_reducible refine wpList_box rfl ?_)
    intro b w1 hB1 hB2 hB3 hB4
    go_wp2_with ((with_reducible refine wpList_getBG (BAt.of_blk hB3) ?_ ?_); rfl)
    refine (ValidGround_any x.gr w1 hr).mono ?_
    rw [E0.out]
    rintro e w2 ⟨rfl, hb2⟩
    have HB := Lib.hid (hB4.trans (hb2.mono hB4.size))
    clear hB3 hB4 hb2
    go_wp2_with fail
    go_ret
    exact ⟨ret_bool HW.out.symm, HB.out⟩
  have hs := sane_of e0 hx
  cases e1 : fieldTo x.gr.wide x.gr.high amount (fm x.s) 64
  · have HW : Hid (okB x.n = false) := by show okB _ = _; unfold okB; rw [show okI x.n.g = _ from e0, show fieldTo x.n.g.wide x.n.g.high amount x.n.s 64 = _ from e1]; rfl
    have E0 := Lib.hid e0
    have E1 := Lib.hid e1
    clear e0 e1
    go_enter Try.func33, Try.ntmps33
    go_wp2_with (with_reducible refine wpList_box rfl ?_)
    intro b w1 hB1 hB2 hB3 hB4
    go_wp2_with ((with_reducible refine wpList_getBG (BAt.of_blk hB3) ?_ ?_); rfl)
    refine (ValidGround_any x.gr w1 hr).mono ?_
    rw [E0.out]
    rintro e w2 ⟨rfl, hb2⟩
    have HX2 := Lib.hid ((BAt.of_blk hB3).below hb2)
    have HB2 := Lib.hid (hB4.trans (hb2.mono hB4.size))
    clear hB3 hB4 hb2
    go_wp2_with fail
    refine (fieldOk_amount b 0 b 195 x.gr x.s w2 hr HX2.out.g HX2.out.fs).mono ?_
    rw [E1.out]
    rintro e w3 ⟨rfl, hb3⟩
    have HX3 := Lib.hid (HX2.out.below hb3)
    have HB3 := Lib.hid (HB2.out.trans (hb3.mono HB2.out.size))
    clear hb3
    go_wp2_with fail
    go_ret
    exact ⟨ret_bool HW.out.symm, HB3.out⟩
  cases e2 : fieldTo x.gr.wide x.gr.high amount (fm x.p) 64
  · have HW : Hid (okB x.n = false) := by show okB _ = _; unfold okB; rw [show okI x.n.g = _ from e0, show fieldTo x.n.g.wide x.n.g.high amount x.n.s 64 = _ from e1, show fieldTo x.n.g.wide x.n.g.high amount x.n.p 64 = _ from e2]; rfl
    have E0 := Lib.hid e0
    have E1 := Lib.hid e1
    have E2 := Lib.hid e2
    clear e0 e1 e2
    go_enter Try.func33, Try.ntmps33
    go_wp2_with (with_reducible refine wpList_box rfl ?_)
    intro b w1 hB1 hB2 hB3 hB4
    go_wp2_with ((with_reducible refine wpList_getBG (BAt.of_blk hB3) ?_ ?_); rfl)
    refine (ValidGround_any x.gr w1 hr).mono ?_
    rw [E0.out]
    rintro e w2 ⟨rfl, hb2⟩
    have HX2 := Lib.hid ((BAt.of_blk hB3).below hb2)
    have HB2 := Lib.hid (hB4.trans (hb2.mono hB4.size))
    clear hB3 hB4 hb2
    go_wp2_with fail
    refine (fieldOk_amount b 0 b 195 x.gr x.s w2 hr HX2.out.g HX2.out.fs).mono ?_
    rw [E1.out]
    rintro e w3 ⟨rfl, hb3⟩
    have HX3 := Lib.hid (HX2.out.below hb3)
    have HB3 := Lib.hid (HB2.out.trans (hb3.mono HB2.out.size))
    clear hb3
    go_wp2_with fail
    refine (fieldOk_amount b 0 b 259 x.gr x.p w3 hr HX3.out.g HX3.out.fp).mono ?_
    rw [E2.out]
    rintro e w4 ⟨rfl, hb4⟩
    have HX4 := Lib.hid (HX3.out.below hb4)
    have HB4 := Lib.hid (HB3.out.trans (hb4.mono HB3.out.size))
    have c4 := HX4.out.room
    clear hb4
    go_wp2_with fail
    go_ret
    exact ⟨ret_bool HW.out.symm, HB4.out⟩
  cases e3 : plain (fb x.room)
  · have HW : Hid (okB x.n = false) := by show okB _ = _; unfold okB; rw [show okI x.n.g = _ from e0, show fieldTo x.n.g.wide x.n.g.high amount x.n.s 64 = _ from e1, show fieldTo x.n.g.wide x.n.g.high amount x.n.p 64 = _ from e2, show plain x.n.room = _ from e3]; rfl
    have E0 := Lib.hid e0
    have E1 := Lib.hid e1
    have E2 := Lib.hid e2
    have E3 := Lib.hid e3
    clear e0 e1 e2 e3
    go_enter Try.func33, Try.ntmps33
    go_wp2_with (with_reducible refine wpList_box rfl ?_)
    intro b w1 hB1 hB2 hB3 hB4
    go_wp2_with ((with_reducible refine wpList_getBG (BAt.of_blk hB3) ?_ ?_); rfl)
    refine (ValidGround_any x.gr w1 hr).mono ?_
    rw [E0.out]
    rintro e w2 ⟨rfl, hb2⟩
    have HX2 := Lib.hid ((BAt.of_blk hB3).below hb2)
    have HB2 := Lib.hid (hB4.trans (hb2.mono hB4.size))
    clear hB3 hB4 hb2
    go_wp2_with fail
    refine (fieldOk_amount b 0 b 195 x.gr x.s w2 hr HX2.out.g HX2.out.fs).mono ?_
    rw [E1.out]
    rintro e w3 ⟨rfl, hb3⟩
    have HX3 := Lib.hid (HX2.out.below hb3)
    have HB3 := Lib.hid (HB2.out.trans (hb3.mono HB2.out.size))
    clear hb3
    go_wp2_with fail
    refine (fieldOk_amount b 0 b 259 x.gr x.p w3 hr HX3.out.g HX3.out.fp).mono ?_
    rw [E2.out]
    rintro e w4 ⟨rfl, hb4⟩
    have HX4 := Lib.hid (HX3.out.below hb4)
    have HB4 := Lib.hid (HB3.out.trans (hb4.mono HB3.out.size))
    have c4 := HX4.out.room
    clear hb4
    go_wp2_with fail
    refine (IsPlain_any x.room w4).mono ?_
    rw [E3.out]
    rintro e w5 ⟨rfl, hb5⟩
    have HX5 := Lib.hid (HX4.out.below hb5)
    have HB5 := Lib.hid (HB4.out.trans (hb5.mono HB4.out.size))
    have c5 := HX5.out.room
    clear hb5 c4
    go_wp2_with fail
    go_ret
    exact ⟨ret_bool HW.out.symm, HB5.out⟩
  cases e4 : fge (fb x.room) lroom
  · have HW : Hid (okB x.n = false) := by show okB _ = _; unfold okB; rw [show okI x.n.g = _ from e0, show fieldTo x.n.g.wide x.n.g.high amount x.n.s 64 = _ from e1, show fieldTo x.n.g.wide x.n.g.high amount x.n.p 64 = _ from e2, show plain x.n.room = _ from e3, show fge x.n.room lroom = _ from e4]; rfl
    have E0 := Lib.hid e0
    have E1 := Lib.hid e1
    have E2 := Lib.hid e2
    have E3 := Lib.hid e3
    have E4 := Lib.hid e4
    have h4 : (fgt (fb x.room) (fb 981467136) || feq (fb x.room) (fb 981467136)) = false := e4
    clear e0 e1 e2 e3 e4
    go_enter Try.func33, Try.ntmps33
    go_wp2_with (with_reducible refine wpList_box rfl ?_)
    intro b w1 hB1 hB2 hB3 hB4
    go_wp2_with ((with_reducible refine wpList_getBG (BAt.of_blk hB3) ?_ ?_); rfl)
    refine (ValidGround_any x.gr w1 hr).mono ?_
    rw [E0.out]
    rintro e w2 ⟨rfl, hb2⟩
    have HX2 := Lib.hid ((BAt.of_blk hB3).below hb2)
    have HB2 := Lib.hid (hB4.trans (hb2.mono hB4.size))
    clear hB3 hB4 hb2
    go_wp2_with fail
    refine (fieldOk_amount b 0 b 195 x.gr x.s w2 hr HX2.out.g HX2.out.fs).mono ?_
    rw [E1.out]
    rintro e w3 ⟨rfl, hb3⟩
    have HX3 := Lib.hid (HX2.out.below hb3)
    have HB3 := Lib.hid (HB2.out.trans (hb3.mono HB2.out.size))
    clear hb3
    go_wp2_with fail
    refine (fieldOk_amount b 0 b 259 x.gr x.p w3 hr HX3.out.g HX3.out.fp).mono ?_
    rw [E2.out]
    rintro e w4 ⟨rfl, hb4⟩
    have HX4 := Lib.hid (HX3.out.below hb4)
    have HB4 := Lib.hid (HB3.out.trans (hb4.mono HB3.out.size))
    have c4 := HX4.out.room
    clear hb4
    go_wp2_with fail
    refine (IsPlain_any x.room w4).mono ?_
    rw [E3.out]
    rintro e w5 ⟨rfl, hb5⟩
    have HX5 := Lib.hid (HX4.out.below hb5)
    have HB5 := Lib.hid (HB4.out.trans (hb5.mono HB4.out.size))
    have c5 := HX5.out.room
    clear hb5 c4
    simp only [Bool.or_eq_false_iff] at h4
    obtain ⟨h4a, h4b⟩ := h4
    go_wp2_with fail
    go_ret
    exact ⟨ret_bool HW.out.symm, HB5.out⟩
  have HW : Hid (okB x.n = true) := by show okB _ = _; unfold okB; rw [show okI x.n.g = _ from e0, show fieldTo x.n.g.wide x.n.g.high amount x.n.s 64 = _ from e1, show fieldTo x.n.g.wide x.n.g.high amount x.n.p 64 = _ from e2, show plain x.n.room = _ from e3, show fge x.n.room lroom = _ from e4]; rfl
  have E0 := Lib.hid e0
  have E1 := Lib.hid e1
  have E2 := Lib.hid e2
  have E3 := Lib.hid e3
  have E4 := Lib.hid e4
  have h4 : (fgt (fb x.room) (fb 981467136) || feq (fb x.room) (fb 981467136)) = true := e4
  clear e0 e1 e2 e3 e4
  go_enter Try.func33, Try.ntmps33
  go_wp2_with (with_reducible refine wpList_box rfl ?_)
  intro b w1 hB1 hB2 hB3 hB4
  go_wp2_with ((with_reducible refine wpList_getBG (BAt.of_blk hB3) ?_ ?_); rfl)
  refine (ValidGround_any x.gr w1 hr).mono ?_
  rw [E0.out]
  rintro e w2 ⟨rfl, hb2⟩
  have HX2 := Lib.hid ((BAt.of_blk hB3).below hb2)
  have HB2 := Lib.hid (hB4.trans (hb2.mono hB4.size))
  clear hB3 hB4 hb2
  go_wp2_with fail
  refine (fieldOk_amount b 0 b 195 x.gr x.s w2 hr HX2.out.g HX2.out.fs).mono ?_
  rw [E1.out]
  rintro e w3 ⟨rfl, hb3⟩
  have HX3 := Lib.hid (HX2.out.below hb3)
  have HB3 := Lib.hid (HB2.out.trans (hb3.mono HB2.out.size))
  clear hb3
  go_wp2_with fail
  refine (fieldOk_amount b 0 b 259 x.gr x.p w3 hr HX3.out.g HX3.out.fp).mono ?_
  rw [E2.out]
  rintro e w4 ⟨rfl, hb4⟩
  have HX4 := Lib.hid (HX3.out.below hb4)
  have HB4 := Lib.hid (HB3.out.trans (hb4.mono HB3.out.size))
  have c4 := HX4.out.room
  clear hb4
  go_wp2_with fail
  refine (IsPlain_any x.room w4).mono ?_
  rw [E3.out]
  rintro e w5 ⟨rfl, hb5⟩
  have HX5 := Lib.hid (HX4.out.below hb5)
  have HB5 := Lib.hid (HB4.out.trans (hb5.mono HB4.out.size))
  have c5 := HX5.out.room
  clear hb5 c4
  have HFL := fun w => flowsOk_any b 0 x.gr w hs E0.out
  cases h4a : fgt (fb x.room) (fb 981467136)
  · rw [h4a, Bool.false_or] at h4
    go_wp2_with fail
    refine (HFL w5 HX5.out.g).mono ?_
    rintro e w6 ⟨rfl, hb6⟩
    have HB6 := Lib.hid (HB5.out.trans (hb6.mono HB5.out.size))
    clear hb6
    go_wp2_with fail
    go_ret
    exact ⟨ret_bool HW.out.symm, HB6.out⟩
  · clear h4
    go_wp2_with fail
    refine (HFL w5 HX5.out.g).mono ?_
    rintro e w6 ⟨rfl, hb6⟩
    have HB6 := Lib.hid (HB5.out.trans (hb6.mono HB5.out.size))
    clear hb6
    go_wp2_with fail
    go_ret
    exact ⟨ret_bool HW.out.symm, HB6.out⟩

set_option maxRecDepth 100000 in
set_option maxHeartbeats 800000 in
theorem l05Field_any (b o bf of : Nat) (g : G) (f : Nat → Nat) (w : World) (hr : g.Rng) (hg : GAt w b o g) (hf : FAt w bf of f) :
    Calls Try.prog 183 #[.pointer (some ⟨b, o, none⟩), .pointer (some ⟨bf, of, none⟩)] w (RetB (fieldTo g.wide g.high amount (fm f) 64) w) := by
  have hlt' := order_lt
  go_enter Try.func183, Try.ntmps183
  go_wp2_with fail
  go_loopw [5] (fun v5 wr => PosRel (fm f) w v5 wr) (fun v5 _ => 64 - (intOf v5).toNat)
  case atStart => exact ⟨0, by omega, rfl, rfl, Below.refl _ _⟩
  case round =>
    obtain ⟨k, hk, rfl, hp, hB⟩ := hrel
    have HG := Lib.hid (hg.below hB)
    have HF := Lib.hid (hf.below hB)
    have HB := Lib.hid hB
    have HP := Lib.hid hp
    clear hB hg hf hp
    by_cases hlt : k < 64
    · have hcell := HF.out k hlt
      have k1 : (k : Int) < 64 := by omega
      cases he : flt (fb (f k)) (fb 0)
      · have HE := Lib.hid he
        go_wp2_with fail
        go_roundw
        case rel => exact ⟨k + 1, by omega, by go_num, by rw [posTo_more, HP.out, fm_of hlt, ← fb0, HE.out]; rfl, HB.out⟩
        case measure => simp [intOf]; omega
      · have HE := Lib.hid he
        go_wp2_with fail
        go_ret
        exact ⟨ret_bool (by rw [field_amount, posTo_bad hlt (by rw [fm_of hlt, ← fb0]; exact HE.out), Bool.and_false]), HB.out⟩
    · obtain rfl : k = 64 := by omega
      go_wp2_with fail
      refine (l01Field_any b o bf of g f wr hr HG.out HF.out).mono ?_
      rintro e w2 ⟨rfl, hb2⟩
      have HB2 := Lib.hid (HB.out.trans (hb2.mono HB.out.size))
      clear hb2
      go_wp2_with fail
      go_ret
      exact ⟨ret_bool (by rw [field_amount, HP.out, Bool.and_true]), HB2.out⟩

/-- The callees' words of a brine's test. -/
def okWord (e0 e1 e2 e3 : Bool) (f : FuncId) (args : Array Value) : Bool :=
  if f = 94 then e0 else if f = 118 then e3 else match args.getD 1 undef with
    | .pointer (some p) => if p.off = 195 then e1 else e2
    | _ => e2
def SOk (e0 e1 e2 e3 : Bool) (f : FuncId) (args : Array Value) (v : Value) : Prop := v = .bool (okWord e0 e1 e2 e3 f args)

set_option maxRecDepth 100000 in
set_option maxHeartbeats 3200000 in
theorem l05Ok_any (b : Nat) (x : Br) (w : World) (hr : x.gr.Rng) (hx : x.gr.Fx) (hX : BAt w b x) :
    Calls Try.prog 123 #[.pointer (some ⟨b, 0, none⟩)] w (RetB (okB x.n) w) := by
  have hlt' := order_lt
  have HX := Lib.hid hX
  have q1 := fun zz => ext_cell w zz hX.room
  clear hX
  cases e0 : okI x.gr.m
  · have HW : Hid (okB x.n = false) := by show okB _ = _; unfold okB; rw [show okI x.n.g = false from e0]; rfl
    have E0 := Lib.hid e0
    clear e0
    go_enter Try.func123, Try.ntmps123
    go_wp2_with fail
    refine wp_soft (SOk false false false false) (by kernel_rfl) (by kernel_rfl) ?_
    repeat (first | (refine soft_step (fun K hK => ?_); go_simp; (try go_bits); refine hK _ ?_; clear hK K) | (refine soft_step (fun K hK => ?_); go_simp; refine ⟨_, _, ⟨rfl, rfl⟩, fun zz => ?_, ?_⟩; (first | ((with_reducible refine (l01Ok_any b 0 x.gr _ hr (HX.out.below (ext_below _ zz)).g).mono ?_); rintro e w1 ⟨he, hb⟩; exact ⟨_, he.trans (ret_bool E0.out), rfl, hb⟩)); rintro v hv; (first | obtain rfl : v = .bool true := hv | obtain rfl : v = .bool false := hv); refine hK _ ?_; clear hK K))
    refine soft_nil ?_
    rintro w1 hw1
    have HB1 := Lib.hid hw1.below
    have HX1 := Lib.hid (HX.out.below hw1.below)
    clear hw1
    go_wp2_with fail
    go_ret
    exact ⟨ret_bool HW.out.symm, HB1.out⟩
  have hs := sane_of e0 hx
  cases e1 : fieldTo x.gr.wide x.gr.high amount (fm x.s) 64
  · have HW : Hid (okB x.n = false) := by show okB _ = _; unfold okB; rw [show okI x.n.g = _ from e0, show fieldTo x.n.g.wide x.n.g.high amount x.n.s 64 = _ from e1]; rfl
    have E0 := Lib.hid e0
    have E1 := Lib.hid e1
    clear e0 e1
    go_enter Try.func123, Try.ntmps123
    go_wp2_with fail
    refine wp_soft (SOk true false false false) (by kernel_rfl) (by kernel_rfl) ?_
    repeat (first | (refine soft_step (fun K hK => ?_); go_simp; (try go_bits); refine hK _ ?_; clear hK K) | (refine soft_step (fun K hK => ?_); go_simp; refine ⟨_, _, ⟨rfl, rfl⟩, fun zz => ?_, ?_⟩; (first | ((with_reducible refine (l01Ok_any b 0 x.gr _ hr (HX.out.below (ext_below _ zz)).g).mono ?_); rintro e w1 ⟨he, hb⟩; exact ⟨_, he.trans (ret_bool E0.out), rfl, hb⟩) | ((with_reducible refine (l05Field_any b 0 b 195 x.gr x.s _ hr (HX.out.below (ext_below _ zz)).g (HX.out.below (ext_below _ zz)).fs).mono ?_); rintro e w1 ⟨he, hb⟩; exact ⟨_, he.trans (ret_bool E1.out), rfl, hb⟩)); rintro v hv; (first | obtain rfl : v = .bool true := hv | obtain rfl : v = .bool false := hv); refine hK _ ?_; clear hK K))
    refine soft_nil ?_
    rintro w1 hw1
    have HB1 := Lib.hid hw1.below
    have HX1 := Lib.hid (HX.out.below hw1.below)
    clear hw1
    go_wp2_with fail
    go_ret
    exact ⟨ret_bool HW.out.symm, HB1.out⟩
  cases e2 : fieldTo x.gr.wide x.gr.high amount (fm x.p) 64
  · have HW : Hid (okB x.n = false) := by show okB _ = _; unfold okB; rw [show okI x.n.g = _ from e0, show fieldTo x.n.g.wide x.n.g.high amount x.n.s 64 = _ from e1, show fieldTo x.n.g.wide x.n.g.high amount x.n.p 64 = _ from e2]; rfl
    have E0 := Lib.hid e0
    have E1 := Lib.hid e1
    have E2 := Lib.hid e2
    clear e0 e1 e2
    go_enter Try.func123, Try.ntmps123
    go_wp2_with fail
    refine wp_soft (SOk true true false false) (by kernel_rfl) (by kernel_rfl) ?_
    repeat (first | (refine soft_step (fun K hK => ?_); go_simp; (try go_bits); refine hK _ ?_; clear hK K) | (refine soft_step (fun K hK => ?_); go_simp; refine ⟨_, _, ⟨rfl, rfl⟩, fun zz => ?_, ?_⟩; (first | ((with_reducible refine (l01Ok_any b 0 x.gr _ hr (HX.out.below (ext_below _ zz)).g).mono ?_); rintro e w1 ⟨he, hb⟩; exact ⟨_, he.trans (ret_bool E0.out), rfl, hb⟩) | ((with_reducible refine (l05Field_any b 0 b 195 x.gr x.s _ hr (HX.out.below (ext_below _ zz)).g (HX.out.below (ext_below _ zz)).fs).mono ?_); rintro e w1 ⟨he, hb⟩; exact ⟨_, he.trans (ret_bool E1.out), rfl, hb⟩) | ((with_reducible refine (l05Field_any b 0 b 259 x.gr x.p _ hr (HX.out.below (ext_below _ zz)).g (HX.out.below (ext_below _ zz)).fp).mono ?_); rintro e w1 ⟨he, hb⟩; exact ⟨_, he.trans (ret_bool E2.out), rfl, hb⟩)); rintro v hv; (first | obtain rfl : v = .bool true := hv | obtain rfl : v = .bool false := hv); refine hK _ ?_; clear hK K))
    refine soft_nil ?_
    rintro w1 hw1
    have HB1 := Lib.hid hw1.below
    have HX1 := Lib.hid (HX.out.below hw1.below)
    clear hw1
    go_wp2_with fail
    go_ret
    exact ⟨ret_bool HW.out.symm, HB1.out⟩
  cases e3 : plain (fb x.room)
  · have HW : Hid (okB x.n = false) := by show okB _ = _; unfold okB; rw [show okI x.n.g = _ from e0, show fieldTo x.n.g.wide x.n.g.high amount x.n.s 64 = _ from e1, show fieldTo x.n.g.wide x.n.g.high amount x.n.p 64 = _ from e2, show plain x.n.room = _ from e3]; rfl
    have E0 := Lib.hid e0
    have E1 := Lib.hid e1
    have E2 := Lib.hid e2
    have E3 := Lib.hid e3
    clear e0 e1 e2 e3
    go_enter Try.func123, Try.ntmps123
    go_wp2_with fail
    refine wp_soft (SOk true true true false) (by kernel_rfl) (by kernel_rfl) ?_
    repeat (first | (refine soft_step (fun K hK => ?_); go_simp; (try go_bits); refine hK _ ?_; clear hK K) | (refine soft_step (fun K hK => ?_); go_simp; refine ⟨_, _, ⟨rfl, rfl⟩, fun zz => ?_, ?_⟩; (first | ((with_reducible refine (l01Ok_any b 0 x.gr _ hr (HX.out.below (ext_below _ zz)).g).mono ?_); rintro e w1 ⟨he, hb⟩; exact ⟨_, he.trans (ret_bool E0.out), rfl, hb⟩) | ((with_reducible refine (l05Field_any b 0 b 195 x.gr x.s _ hr (HX.out.below (ext_below _ zz)).g (HX.out.below (ext_below _ zz)).fs).mono ?_); rintro e w1 ⟨he, hb⟩; exact ⟨_, he.trans (ret_bool E1.out), rfl, hb⟩) | ((with_reducible refine (l05Field_any b 0 b 259 x.gr x.p _ hr (HX.out.below (ext_below _ zz)).g (HX.out.below (ext_below _ zz)).fp).mono ?_); rintro e w1 ⟨he, hb⟩; exact ⟨_, he.trans (ret_bool E2.out), rfl, hb⟩) | ((with_reducible refine (l01Plain_any _ _).mono ?_); rintro e w1 ⟨he, hb⟩; exact ⟨_, he.trans (ret_bool E3.out), rfl, hb⟩)); rintro v hv; (first | obtain rfl : v = .bool true := hv | obtain rfl : v = .bool false := hv); refine hK _ ?_; clear hK K))
    refine soft_nil ?_
    rintro w1 hw1
    have HB1 := Lib.hid hw1.below
    have HX1 := Lib.hid (HX.out.below hw1.below)
    clear hw1
    go_wp2_with fail
    go_ret
    exact ⟨ret_bool HW.out.symm, HB1.out⟩
  cases e4 : fge (fb x.room) lroom
  · have HW : Hid (okB x.n = false) := by show okB _ = _; unfold okB; rw [show okI x.n.g = _ from e0, show fieldTo x.n.g.wide x.n.g.high amount x.n.s 64 = _ from e1, show fieldTo x.n.g.wide x.n.g.high amount x.n.p 64 = _ from e2, show plain x.n.room = _ from e3, show fge x.n.room lroom = _ from e4]; rfl
    have E0 := Lib.hid e0
    have E1 := Lib.hid e1
    have E2 := Lib.hid e2
    have E3 := Lib.hid e3
    have E4 := Lib.hid e4
    have h4 : flt (fb x.room) (fb 981467136) = true := by
      have := ge_least e3
      rw [e4] at this
      rw [fbRoom]
      show flt _ lroom = _
      simpa using this.symm
    clear e0 e1 e2 e3 e4
    go_enter Try.func123, Try.ntmps123
    go_wp2_with fail
    refine wp_soft (SOk true true true true) (by kernel_rfl) (by kernel_rfl) ?_
    repeat (first | (refine soft_step (fun K hK => ?_); go_simp; (try go_bits); refine hK _ ?_; clear hK K) | (refine soft_step (fun K hK => ?_); go_simp; refine ⟨_, _, ⟨rfl, rfl⟩, fun zz => ?_, ?_⟩; (first | ((with_reducible refine (l01Ok_any b 0 x.gr _ hr (HX.out.below (ext_below _ zz)).g).mono ?_); rintro e w1 ⟨he, hb⟩; exact ⟨_, he.trans (ret_bool E0.out), rfl, hb⟩) | ((with_reducible refine (l05Field_any b 0 b 195 x.gr x.s _ hr (HX.out.below (ext_below _ zz)).g (HX.out.below (ext_below _ zz)).fs).mono ?_); rintro e w1 ⟨he, hb⟩; exact ⟨_, he.trans (ret_bool E1.out), rfl, hb⟩) | ((with_reducible refine (l05Field_any b 0 b 259 x.gr x.p _ hr (HX.out.below (ext_below _ zz)).g (HX.out.below (ext_below _ zz)).fp).mono ?_); rintro e w1 ⟨he, hb⟩; exact ⟨_, he.trans (ret_bool E2.out), rfl, hb⟩) | ((with_reducible refine (l01Plain_any _ _).mono ?_); rintro e w1 ⟨he, hb⟩; exact ⟨_, he.trans (ret_bool E3.out), rfl, hb⟩)); rintro v hv; (first | obtain rfl : v = .bool true := hv | obtain rfl : v = .bool false := hv); refine hK _ ?_; clear hK K))
    refine soft_nil ?_
    rintro w1 hw1
    have HB1 := Lib.hid hw1.below
    have HX1 := Lib.hid (HX.out.below hw1.below)
    clear hw1
    go_wp2_with fail
    go_ret
    exact ⟨ret_bool HW.out.symm, HB1.out⟩
  have HW : Hid (okB x.n = true) := by show okB _ = _; unfold okB; rw [show okI x.n.g = _ from e0, show fieldTo x.n.g.wide x.n.g.high amount x.n.s 64 = _ from e1, show fieldTo x.n.g.wide x.n.g.high amount x.n.p 64 = _ from e2, show plain x.n.room = _ from e3, show fge x.n.room lroom = _ from e4]; rfl
  have E0 := Lib.hid e0
  have E1 := Lib.hid e1
  have E2 := Lib.hid e2
  have E3 := Lib.hid e3
  have E4 := Lib.hid e4
  have h4 : flt (fb x.room) (fb 981467136) = false := by
    have := ge_least e3
    rw [e4] at this
    rw [fbRoom]
    show flt _ lroom = _
    simpa using this.symm
  clear e0 e1 e2 e3 e4
  go_enter Try.func123, Try.ntmps123
  go_wp2_with fail
  refine wp_soft (SOk true true true true) (by kernel_rfl) (by kernel_rfl) ?_
  repeat (first | (refine soft_step (fun K hK => ?_); go_simp; (try go_bits); refine hK _ ?_; clear hK K) | (refine soft_step (fun K hK => ?_); go_simp; refine ⟨_, _, ⟨rfl, rfl⟩, fun zz => ?_, ?_⟩; (first | ((with_reducible refine (l01Ok_any b 0 x.gr _ hr (HX.out.below (ext_below _ zz)).g).mono ?_); rintro e w1 ⟨he, hb⟩; exact ⟨_, he.trans (ret_bool E0.out), rfl, hb⟩) | ((with_reducible refine (l05Field_any b 0 b 195 x.gr x.s _ hr (HX.out.below (ext_below _ zz)).g (HX.out.below (ext_below _ zz)).fs).mono ?_); rintro e w1 ⟨he, hb⟩; exact ⟨_, he.trans (ret_bool E1.out), rfl, hb⟩) | ((with_reducible refine (l05Field_any b 0 b 259 x.gr x.p _ hr (HX.out.below (ext_below _ zz)).g (HX.out.below (ext_below _ zz)).fp).mono ?_); rintro e w1 ⟨he, hb⟩; exact ⟨_, he.trans (ret_bool E2.out), rfl, hb⟩) | ((with_reducible refine (l01Plain_any _ _).mono ?_); rintro e w1 ⟨he, hb⟩; exact ⟨_, he.trans (ret_bool E3.out), rfl, hb⟩)); rintro v hv; (first | obtain rfl : v = .bool true := hv | obtain rfl : v = .bool false := hv); refine hK _ ?_; clear hK K))
  refine soft_nil ?_
  rintro w1 hw1
  have HB1 := Lib.hid hw1.below
  have HX1 := Lib.hid (HX.out.below hw1.below)
  clear hw1
  clear q1
  go_wp2_with fail
  go_loopw [3] (fun v3 wr => CntRel 64 w1 v3 wr) (fun v3 _ => 64 - (intOf v3).toNat)
  case atStart => exact ⟨0, by omega, rfl, Below.refl _ _⟩
  case round =>
    obtain ⟨j, hj, rfl, hB⟩ := hrel
    have HB := Lib.hid hB
    have HXr := Lib.hid (HX1.out.below hB)
    clear hB
    by_cases hlt : j < 64
    · have j1 : (j : Int) < 64 := by omega
      go_wp2_with fail
      go_loopw [4] (fun v4 wr2 => CntRel 4 wr v4 wr2) (fun v4 _ => 4 - (intOf v4).toNat)
      case atStart => exact ⟨0, by omega, rfl, Below.refl _ _⟩
      case round =>
        obtain ⟨s, hs4, rfl, hB2⟩ := hrel
        have HB2 := Lib.hid hB2
        have HX2 := Lib.hid (HXr.out.below hB2)
        clear hB2
        by_cases hlt2 : s < 4
        · cases hh : hasB x.gr.wide x.gr.high j
          · have HH := Lib.hid hh
            clear hh
            go_wp2_with (go_at_call 111; refine (l01Is_any b 0 j x.gr _ hlt hr HX2.out.g).mono ?_; rw [HH.out]; rintro e w' ⟨rfl, rfl⟩)
            go_roundw
            case rel => exact ⟨j + 1, by omega, by go_num, HB.out.trans (HB2.out.mono HB.out.size)⟩
            case measure => simp [intOf]; omega
          · have HH := Lib.hid hh
            clear hh
            go_wp2_with (go_at_call 111; refine (l01Is_any b 0 j x.gr _ hlt hr HX2.out.g).mono ?_; rw [HH.out]; rintro e w' ⟨rfl, rfl⟩)
            refine (l01Flow_any b 0 j s x.gr _ hlt hlt2 hr hs.hW hs.hH HX2.out.g).mono ?_
            rintro e w3 ⟨r, rfl, hr3, hb3⟩
            have HB3 := Lib.hid (HB2.out.trans (hb3.mono HB2.out.size))
            have HF : Hid (fin (flow x.gr.m j s) = true) := flow_fin E0.out hlt HH.out
            clear hb3
            go_wp2_with fail
            refine (l01Finite_any r _ w3 hr3).mono ?_
            rw [HF.out]
            rintro e w4 ⟨rfl, hb4⟩
            have HB4 := Lib.hid (HB3.out.trans (hb4.mono HB3.out.size))
            clear hb4
            go_wp2_with fail
            go_roundw
            case rel => exact ⟨s + 1, by omega, by go_num, HB4.out⟩
            case measure => simp [intOf]; omega
        · go_wp2_with fail
          go_roundw
          case rel => exact ⟨j + 1, by omega, by go_num, HB.out.trans (HB2.out.mono HB.out.size)⟩
          case measure => simp [intOf]; omega
    · go_wp2_with fail
      go_ret
      exact ⟨ret_bool HW.out.symm, HB1.out.trans (HB.out.mono HB1.out.size)⟩
end Go.Proofs.Ytfcphfdfpjmgiaa
