/- Whether a step is small: both sides. -/
import Derived.Test.YtfcphfdfpjmgiaaBrFree
import Derived.Test.YtfcphfdfpjmgiaaBrGo
namespace Go.Proofs.Ytfcphfdfpjmgiaa
open Go.RowKit

/-- The part of its salt that a cell loses. -/
def partF (n : N) (k : Nat) (t : F) : F := fdiv (fmul t (outF n.g k)) n.room
def smallTo (n : N) (t : F) (l : List Nat) : Bool := l.all fun c => fle (partF n c t) (some 1065353216)
def smallB (n : N) (t : F) : Bool := amount t && smallTo n t (freeL n.g 64)
theorem fbOne : fb 1065353216 = some 1065353216 := by decide
theorem smallTo_snoc {n : N} {t : F} {l : List Nat} {c : Nat} : smallTo n t (l ++ [c]) = (smallTo n t l && fle (partF n c t) (some 1065353216)) := by simp [smallTo, List.all_append]
theorem smallTo_bad {n : N} {t : F} {l : List Nat} {c : Nat} (hc : c ∈ l) (h : fle (partF n c t) (some 1065353216) = false) : smallTo n t l = false := by
  unfold smallTo; rw [List.all_eq_false]; exact ⟨c, hc, by rw [h]; simp⟩

set_option maxRecDepth 100000 in
set_option maxHeartbeats 800000 in
theorem part_any (b k t : Nat) (x : Br) (w : World) (hk : k < 64) (hs : x.gr.Sane) (hX : BAt w b x) :
    Calls Try.prog 185 #[.pointer (some ⟨b, 0, none⟩), .int .i64 k, .float .f32 t] w (RetF (partF x.n k (fb t)) w) := by
  have k1 : (k : Int) < 64 := by omega
  have q1 := fun zz => ext_cell w zz hX.room
  have HX := Lib.hid hX
  clear hX
  go_enter Try.func185, Try.ntmps185
  go_wp2_with fail
  refine wp_soft (SF (outF x.gr.m k)) (by kernel_rfl) (by kernel_rfl) ?_
  repeat (first | (refine soft_arith (fun _ n h => h.drewN n) _ _ rfl rfl rfl ?_; intro r hr) | (refine soft_step (fun K hK => ?_); go_simp; (try go_bits); refine hK _ ?_; clear hK K) | (refine soft_step (fun K hK => ?_); go_simp; refine ⟨_, _, ⟨rfl, rfl⟩, fun zz => ?_, ?_⟩; ((with_reducible refine (outB_any b k x _ hk hs (HX.out.below (ext_below _ zz))).mono ?_); rintro e w1 ⟨r, he, hr, hb⟩; exact ⟨_, he, ⟨r, rfl, hr⟩, hb⟩); rintro v ⟨ro, rfl, hro⟩; refine hK _ ?_; clear hK K))
  rename_i rm hm
  refine soft_nil ?_
  rintro w5 hw5
  have HB5 := Lib.hid hw5.below
  clear hw5 q1
  go_wp2_with fail
  go_ret
  refine ⟨r, rfl, ?_, HB5.out⟩
  show fb r = fdiv (fmul (fb t) (outF x.gr.m k)) (fb x.room)
  rw [hr.out, fop, hm.out, fop, hro.out]

set_option maxRecDepth 100000 in
set_option maxHeartbeats 800000 in
theorem l05Part_any (b k t : Nat) (x : Br) (w : World) (hk : k < 64) (hs : x.gr.Sane) (hX : BAt w b x) :
    Calls Try.prog 196 #[.pointer (some ⟨b, 0, none⟩), .int .i64 k, .float .f32 t] w (RetF (partF x.n k (fb t)) w) := by
  have k1 : (k : Int) < 64 := by omega
  have q1 := fun zz => ext_cell w zz hX.room
  have HX := Lib.hid hX
  clear hX
  go_enter Try.func196, Try.ntmps196
  go_wp2_with fail
  refine wp_soft (SF (outF x.gr.m k)) (by kernel_rfl) (by kernel_rfl) ?_
  repeat (first | (refine soft_arith (fun _ n h => h.drewN n) _ _ rfl rfl rfl ?_; intro r hr) | (refine soft_step (fun K hK => ?_); go_simp; (try go_bits); refine hK _ ?_; clear hK K) | (refine soft_step (fun K hK => ?_); go_simp; refine ⟨_, _, ⟨rfl, rfl⟩, fun zz => ?_, ?_⟩; ((with_reducible refine (l05Out_any b k x _ hk hs (HX.out.below (ext_below _ zz))).mono ?_); rintro e w1 ⟨r, he, hr, hb⟩; exact ⟨_, he, ⟨r, rfl, hr⟩, hb⟩); rintro v ⟨ro, rfl, hro⟩; refine hK _ ?_; clear hK K))
  rename_i rm hm
  refine soft_nil ?_
  rintro w5 hw5
  have HB5 := Lib.hid hw5.below
  clear hw5 q1
  go_wp2_with fail
  go_ret
  refine ⟨r, rfl, ?_, HB5.out⟩
  show fb r = fdiv (fmul (fb t) (outF x.gr.m k)) (fb x.room)
  rw [hr.out, fop, hm.out, fop, hro.out]

def SmallRel (n : N) (t : F) (l : List Nat) (w : World) (v : Value) (wr : World) : Prop :=
  ∃ j : Nat, j ≤ l.length ∧ v = .int .i64 j ∧ smallTo n t (l.take j) = true ∧ Below w.heap.size w wr
def SmallRelS (n : N) (t : F) (w : World) (v : Value) (wr : World) : Prop :=
  ∃ k : Nat, k ≤ 64 ∧ v = .int .i64 k ∧ smallTo n t (freeL n.g k) = true ∧ Below w.heap.size w wr
theorem free_mem {m : M} {k j : Nat} (hk : k < j) (hh : hasB m.wide m.high k = true) (hf : fixB m.fixed k = false) : k ∈ freeL m j := by
  unfold freeL cellsTo
  exact List.mem_filter.2 ⟨List.mem_filter.2 ⟨List.mem_range.2 hk, hh⟩, by rw [hf]; rfl⟩

set_option maxRecDepth 100000 in
set_option maxHeartbeats 1600000 in
theorem small_any (b t : Nat) (x : Br) (w : World) (hs : x.gr.Sane) (hX : BAt w b x) :
    Calls Try.prog 130 #[.pointer (some ⟨b, 0, none⟩), .float .f32 t] w (RetB (smallB x.n (fb t)) w) := by
  have hlt' := order_lt
  have heq' := order_eq
  cases ha : amount (fb t)
  · have HA := Lib.hid ha
    have HW : Hid (smallB x.n (fb t) = false) := by show _ = _; unfold smallB; rw [ha]; rfl
    clear ha
    go_enter Try.func130, Try.ntmps130
    go_wp2_with fail
    refine (isAmount_any t w).mono ?_
    rw [HA.out]
    rintro e w1 ⟨rfl, hb1⟩
    have HB := Lib.hid hb1
    clear hb1
    go_wp2_with fail
    go_ret
    exact ⟨ret_bool HW.out.symm, HB.out⟩
  · have HA := Lib.hid ha
    have HW : Hid (smallB x.n (fb t) = smallTo x.n (fb t) (freeL x.gr.m 64)) := by show _ = _; unfold smallB; rw [ha]; rfl
    clear ha
    go_enter Try.func130, Try.ntmps130
    go_wp2_with fail
    refine (isAmount_any t w).mono ?_
    rw [HA.out]
    rintro e w1 ⟨rfl, hb1⟩
    have HB1 := Lib.hid hb1
    have HX1 := Lib.hid (hX.below hb1)
    clear hb1 hX
    go_wp2_with fail
    refine (free_any b 0 x.gr w1 hs HX1.out.g).mono ?_
    rintro e w2 ⟨v, rfl, hown, hb2⟩
    obtain ⟨aL, cap, rfl, hL⟩ := list_form hown
    have HL := Lib.hid hL
    have HX2 := Lib.hid (HX1.out.below hb2)
    have HB2 := Lib.hid (HB1.out.trans (hb2.mono HB1.out.size))
    have hlen := freeL_length x.gr.m 64
    clear hL hown hb2
    have HB_ := HB2
    clear HB2
    go_wp2_with fail
    go_loopw [15] (fun v15 wr => SmallRel x.n (fb t) (freeL x.gr.m 64) w2 v15 wr) (fun v15 _ => (freeL x.gr.m 64).length - (intOf v15).toNat)
    case atStart => exact ⟨0, by omega, rfl, rfl, Below.refl _ _⟩
    case round =>
      obtain ⟨j, hj, rfl, hto, hB⟩ := hrel
      have HBr := Lib.hid hB
      have HX := Lib.hid (HX2.out.below hB)
      have HT := Lib.hid hto
      clear hB hto
      by_cases hlt : j < (freeL x.gr.m 64).length
      · obtain ⟨c, hc⟩ : ∃ c, (freeL x.gr.m 64)[j]? = some c := ⟨_, List.getElem?_eq_getElem hlt⟩
        have hmem := Lib.hid (List.mem_of_getElem? hc)
        have hc64 : c < 64 := freeL_lt hmem.out
        have hj64 : j < 64 := by omega
        obtain ⟨gq, rfl, hq1, hq2, hq3⟩ := HL.out j c hc
        have hcell := cell_below HBr.out hq3
        have HC := Lib.hid hc
        have j1 : (j : Int) < ((freeL x.gr.m 64).length : Int) := by omega
        clear hq3 hc
        go_wp2_with fail
        refine (part_any b c t x wr hc64 hs HX.out).mono ?_
        rintro e w3 ⟨r, rfl, hr3, hb3⟩
        have HB2 := Lib.hid (HBr.out.trans (hb3.mono HBr.out.size))
        have HR := Lib.hid hr3
        clear hb3 hr3
        cases h1 : flt (fb r) (fb 1065353216)
        · cases h2 : feq (fb r) (fb 1065353216)
          · have HLE : Hid (fle (partF x.n c (fb t)) (some 1065353216) = false) := by show _ = _; rw [← HR.out.out, ← fbOne]; unfold fle; rw [h1, h2]; rfl
            go_wp2_with fail
            go_ret
            exact ⟨ret_bool (by rw [HW.out]; exact (smallTo_bad hmem.out HLE.out).symm), HB_.out.trans (HB2.out.mono HB_.out.size)⟩
          · have HLE : Hid (fle (partF x.n c (fb t)) (some 1065353216) = true) := by show _ = _; rw [← HR.out.out, ← fbOne]; unfold fle; rw [h1, h2]; rfl
            go_wp2_with fail
            go_roundw
            case rel => exact ⟨j + 1, by omega, by go_num, by rw [take_more HC.out, smallTo_snoc, HT.out, HLE.out]; rfl, HB2.out⟩
            case measure => simp [intOf]; omega
        · have HLE : Hid (fle (partF x.n c (fb t)) (some 1065353216) = true) := by show _ = _; rw [← HR.out.out, ← fbOne]; unfold fle; rw [h1]; rfl
          go_wp2_with fail
          go_roundw
          case rel => exact ⟨j + 1, by omega, by go_num, by rw [take_more HC.out, smallTo_snoc, HT.out, HLE.out]; rfl, HB2.out⟩
          case measure => simp [intOf]; omega
      · have hjn : j = (freeL x.gr.m 64).length := by omega
        have j1 : ¬ (j : Int) < ((freeL x.gr.m 64).length : Int) := by omega
        have HE : Hid (smallTo x.n (fb t) (freeL x.gr.m 64) = true) := by
          show _ = _
          have := HT.out
          rw [List.take_of_length_le (Nat.le_of_eq hjn.symm)] at this; exact this
        clear hjn HT
        go_wp2_with fail
        go_ret
        exact ⟨ret_bool (by rw [HW.out, HE.out]), HB_.out.trans (HBr.out.mono HB_.out.size)⟩

set_option maxRecDepth 100000 in
set_option maxHeartbeats 1600000 in
theorem l05Small_any (b t : Nat) (x : Br) (w : World) (hs : x.gr.Sane) (hX : BAt w b x) :
    Calls Try.prog 186 #[.pointer (some ⟨b, 0, none⟩), .float .f32 t] w (RetB (smallB x.n (fb t)) w) := by
  have hlt' := order_lt
  have heq' := order_eq
  cases hp : plain (fb t)
  · have HP := Lib.hid hp
    have HW : Hid (smallB x.n (fb t) = false) := by show _ = _; unfold smallB; rw [amount_eq, hp]; rfl
    clear hp
    go_enter Try.func186, Try.ntmps186
    go_wp2_with fail
    refine (l01Plain_any t w).mono ?_
    rw [HP.out]
    rintro e w1 ⟨rfl, hb1⟩
    have HB := Lib.hid hb1
    clear hb1
    go_wp2_with fail
    go_ret
    exact ⟨ret_bool HW.out.symm, HB.out⟩
  cases h0 : flt (fb t) (fb 0)
  rotate_left
  · have HP := Lib.hid hp
    have HW : Hid (smallB x.n (fb t) = false) := by show _ = _; unfold smallB; rw [amount_eq, hp, ← fb0, h0]; rfl
    clear hp
    go_enter Try.func186, Try.ntmps186
    go_wp2_with fail
    refine (l01Plain_any t w).mono ?_
    rw [HP.out]
    rintro e w1 ⟨rfl, hb1⟩
    have HB := Lib.hid hb1
    clear hb1
    go_wp2_with fail
    go_ret
    exact ⟨ret_bool HW.out.symm, HB.out⟩
  · have HP := Lib.hid hp
    have HW : Hid (smallB x.n (fb t) = smallTo x.n (fb t) (freeL x.gr.m 64)) := by show _ = _; unfold smallB; rw [amount_eq, hp, ← fb0, h0]; rfl
    clear hp
    go_enter Try.func186, Try.ntmps186
    go_wp2_with fail
    refine (l01Plain_any t w).mono ?_
    rw [HP.out]
    rintro e w2 ⟨rfl, hb1⟩
    have HB_ := Lib.hid hb1
    have HX2 := Lib.hid (hX.below hb1)
    clear hb1 hX
    go_wp2_with fail
    go_loopw [5] (fun v5 wr => SmallRelS x.n (fb t) w2 v5 wr) (fun v5 _ => 64 - (intOf v5).toNat)
    case atStart => exact ⟨0, by omega, rfl, rfl, Below.refl _ _⟩
    case round =>
      obtain ⟨k, hk, rfl, hto, hB⟩ := hrel
      have HBr := Lib.hid hB
      have HX := Lib.hid (HX2.out.below hB)
      have HT := Lib.hid hto
      clear hB hto
      by_cases hlt : k < 64
      · cases hh : hasB x.gr.wide x.gr.high k
        · have HH := Lib.hid hh
          have HF : Hid (fixB x.gr.fixed k = fixB x.gr.fixed k) := rfl
          clear hh
          go_wp2_with (go_at_call 124; refine (l05Free_any b k x _ hlt hs HX.out).mono ?_; rw [HH.out, HF.out]; rintro e w' ⟨rfl, rfl⟩)
          go_roundw
          case rel => exact ⟨k + 1, by omega, by go_num, by rw [freeL_no (m := x.n.g) HH.out]; exact HT.out, HBr.out⟩
          case measure => simp [intOf]; omega
        · have HH := Lib.hid hh
          clear hh
          cases hf : fixB x.gr.fixed k
          rotate_left
          · have HF := Lib.hid hf
            clear hf
            go_wp2_with (go_at_call 124; refine (l05Free_any b k x _ hlt hs HX.out).mono ?_; rw [HH.out, HF.out]; rintro e w' ⟨rfl, rfl⟩)
            go_roundw
            case rel => exact ⟨k + 1, by omega, by go_num, by rw [freeL_fix (m := x.n.g) HH.out HF.out]; exact HT.out, HBr.out⟩
            case measure => simp [intOf]; omega
          · have HF := Lib.hid hf
            have hmem := Lib.hid (free_mem (m := x.n.g) hlt HH.out hf)
            clear hf
            go_wp2_with (go_at_call 124; refine (l05Free_any b k x _ hlt hs HX.out).mono ?_; rw [HH.out, HF.out]; rintro e w' ⟨rfl, rfl⟩)
            refine (l05Part_any b k t x wr hlt hs HX.out).mono ?_
            rintro e w3 ⟨r, rfl, hr3, hb3⟩
            have HB3 := Lib.hid (HBr.out.trans (hb3.mono HBr.out.size))
            have HR := Lib.hid hr3
            clear hb3 hr3
            cases h1 : flt (fb r) (fb 1065353216)
            · cases h2 : feq (fb r) (fb 1065353216)
              · have HLE : Hid (fle (partF x.n k (fb t)) (some 1065353216) = false) := by show _ = _; rw [← HR.out.out, ← fbOne]; unfold fle; rw [h1, h2]; rfl
                go_wp2_with fail
                go_ret
                exact ⟨ret_bool (by rw [HW.out]; exact (smallTo_bad hmem.out HLE.out).symm), HB_.out.trans (HB3.out.mono HB_.out.size)⟩
              · have HLE : Hid (fle (partF x.n k (fb t)) (some 1065353216) = true) := by show _ = _; rw [← HR.out.out, ← fbOne]; unfold fle; rw [h1, h2]; rfl
                go_wp2_with fail
                go_roundw
                case rel => exact ⟨k + 1, by omega, by go_num, by rw [freeL_yes (m := x.n.g) HH.out HF.out, smallTo_snoc, HT.out, HLE.out]; rfl, HB3.out⟩
                case measure => simp [intOf]; omega
            · have HLE : Hid (fle (partF x.n k (fb t)) (some 1065353216) = true) := by show _ = _; rw [← HR.out.out, ← fbOne]; unfold fle; rw [h1]; rfl
              go_wp2_with fail
              go_roundw
              case rel => exact ⟨k + 1, by omega, by go_num, by rw [freeL_yes (m := x.n.g) HH.out HF.out, smallTo_snoc, HT.out, HLE.out]; rfl, HB3.out⟩
              case measure => simp [intOf]; omega
      · obtain rfl : k = 64 := by omega
        go_wp2_with fail
        go_ret
        exact ⟨ret_bool (by rw [HW.out]; exact HT.out.symm), HB_.out.trans (HBr.out.mono HB_.out.size)⟩

/-- A bool and a code are handed back. -/
def RetBC (t : Bool × Int) (w : World) (e : Ending) (w' : World) : Prop := e = .returned (.tuple #[.bool t.1, .int .i64 t.2]) ∧ Below w.heap.size w w'
def isSmR (n : N) (t : F) : Bool × Int := if okB n then (smallB n t, 0) else (false, 1)

set_option maxRecDepth 100000 in
set_option maxHeartbeats 800000 in
theorem IsSmallStep_any (x : Br) (t : Nat) (w : World) (hr : x.gr.Rng) (hx : x.gr.Fx) :
    Calls Try.prog 35 #[.agg (arrB x), .float .f32 t] w (RetBC (isSmR x.n (fb t)) w) := by
  cases hok : okB x.n
  · have HW : Hid (isSmR x.n (fb t) = (false, 1)) := by show _ = _; unfold isSmR; rw [hok]; rfl
    have HOK := Lib.hid hok
    clear hok
    go_enter Try.func35, Try.ntmps35
    go_wp2_with (with_reducible refine wpList_box rfl ?_)
    intro b w1 hB1 hB2 hB3 hB4
    go_wp2_with ((with_reducible refine wpList_getB hB3 ?_ ?_); rfl)
    refine (ValidBrine_any x w1 hr hx).mono ?_
    rw [HOK.out]
    rintro e w3 ⟨rfl, hb3⟩
    have HB := Lib.hid (hB4.trans (hb3.mono hB4.size))
    clear hB3 hB4 hb3
    go_wp2_with fail
    go_ret2
    exact ⟨by rw [HW.out]; rfl, HB.out⟩
  · have hs := sane_of (okB_g hok) hx
    obtain ⟨q, hq⟩ : ∃ q, smallB x.n (fb t) = q := ⟨_, rfl⟩
    have HQ := Lib.hid hq
    have HW : Hid (isSmR x.n (fb t) = (q, 0)) := by show _ = _; unfold isSmR; rw [hok, hq]; rfl
    have HOK := Lib.hid hok
    clear hok hq
    go_enter Try.func35, Try.ntmps35
    go_wp2_with (with_reducible refine wpList_box rfl ?_)
    intro b w1 hB1 hB2 hB3 hB4
    go_wp2_with ((with_reducible refine wpList_getB hB3 ?_ ?_); rfl)
    refine (ValidBrine_any x w1 hr hx).mono ?_
    rw [HOK.out]
    rintro e w3 ⟨rfl, hb3⟩
    have HX3 := Lib.hid ((BAt.of_blk hB3).below hb3)
    have HB := Lib.hid (hB4.trans (hb3.mono hB4.size))
    clear hB3 hB4 hb3
    go_wp2_with fail
    refine (small_any b t x w3 hs HX3.out).mono ?_
    rw [HQ.out]
    rintro e w4 ⟨rfl, hb4⟩
    have HB4 := Lib.hid (HB.out.trans (hb4.mono HB.out.size))
    clear hb4
    go_wp2_with fail
    go_ret2
    exact ⟨by rw [HW.out]; rfl, HB4.out⟩

end Go.Proofs.Ytfcphfdfpjmgiaa
