/- The laws' copies of brines, and their comparison. -/
import Derived.Test.YtfddjbpfahjleaaBrine
import Derived.Test.YtfddjbpfahjleaaEqG
namespace Go.Proofs.Ytfddjbpfahjleaa
open Go.RowKit

section
variable {ops : Array Oper} {Q : Exit → Act → World → Prop} {rest : List Oper} {a : Act} {w : World} {dst : Option Tmp} {ty : TypeId} {X Y : Operand} {pos : String} {after : Array Edge} {B : Nat} {t : TypeId}
theorem wpList_putBG {x : Br} {g : G} (hg : Blk w B (arrB x) t) (hx : a.eval X = .pointer (some ⟨B, 0, none⟩)) (hy : a.eval Y = .agg (arrG g))
    (h : ∀ w', w'.heap.size = w.heap.size → Blk w' B (arrB { x with gr := g }) t → w.grownBy w' (some B) → wpList Try.prog ops Q rest (a.put dst undef) w') : wpList Try.prog ops Q (⟨dst, .store 34 X Y, ty, pos, after, none⟩ :: rest) a w :=
  wpList_putAt (o := 0) (by rw [arrG_size]; exact sizeG) (arrG_one g) hg (by rw [arrG_size, arrB_size]; omega) (by rw [arrB_size, arrB_size]) (fun i hi => by
    rw [arrB_size] at hi
    rw [arrB_get _ hi, arrB_get _ hi, arrG_size]
    unfold Br.cell
    by_cases h1 : i < 195
    · rw [if_pos h1, if_pos (by omega), arrG_get _ (by omega)]; rfl
    · rw [if_neg (show ¬ (0 ≤ i ∧ i < 0 + 195) by omega)]
      simp only [if_neg h1]) hx hy h
theorem wpList_putBS {x : Br} {f : Nat → Nat} (hg : Blk w B (arrB x) t) (hx : a.eval X = .pointer (some ⟨B, 195, none⟩)) (hy : a.eval Y = .agg (arrF f))
    (h : ∀ w', w'.heap.size = w.heap.size → Blk w' B (arrB { x with s := f }) t → w.grownBy w' (some B) → wpList Try.prog ops Q rest (a.put dst undef) w') : wpList Try.prog ops Q (⟨dst, .store 32 X Y, ty, pos, after, none⟩ :: rest) a w :=
  wpList_putAt (o := 195) (by rw [arrF_size]; exact sizeF) (arrF_one f) hg (by rw [arrF_size, arrB_size]; omega) (by rw [arrB_size, arrB_size]) (fun i hi => by
    rw [arrB_size] at hi
    rw [arrB_get _ hi, arrB_get _ hi, arrF_size]
    unfold Br.cell
    by_cases h1 : i < 195
    · rw [if_pos h1, if_pos h1, if_neg (by omega)]
    · rw [if_neg h1, if_neg h1]
      by_cases h2 : i < 259
      · rw [if_pos h2, if_pos (by omega), arrF_get _ (by omega)]
      · rw [if_neg (show ¬ (195 ≤ i ∧ i < 195 + 64) by omega)]
        simp only [if_neg h2]) hx hy h
theorem wpList_putBP {x : Br} {f : Nat → Nat} (hg : Blk w B (arrB x) t) (hx : a.eval X = .pointer (some ⟨B, 259, none⟩)) (hy : a.eval Y = .agg (arrF f))
    (h : ∀ w', w'.heap.size = w.heap.size → Blk w' B (arrB { x with p := f }) t → w.grownBy w' (some B) → wpList Try.prog ops Q rest (a.put dst undef) w') : wpList Try.prog ops Q (⟨dst, .store 32 X Y, ty, pos, after, none⟩ :: rest) a w :=
  wpList_putAt (o := 259) (by rw [arrF_size]; exact sizeF) (arrF_one f) hg (by rw [arrF_size, arrB_size]; omega) (by rw [arrB_size, arrB_size]) (fun i hi => by
    rw [arrB_size] at hi
    rw [arrB_get _ hi, arrB_get _ hi, arrF_size]
    unfold Br.cell
    by_cases h1 : i < 195
    · rw [if_pos h1, if_pos h1, if_neg (by omega)]
    · rw [if_neg h1, if_neg h1]
      by_cases h2 : i < 259
      · rw [if_pos h2, if_pos h2, if_neg (by omega)]
      · rw [if_neg h2, if_neg h2]
        by_cases h3 : i < 323
        · rw [if_pos h3, if_pos (by omega), arrF_get _ (by omega)]
        · rw [if_neg (show ¬ (259 ≤ i ∧ i < 259 + 64) by omega)]
          simp only [if_neg h3]) hx hy h
theorem cell_setR (x : Br) (r : Nat) {i : Nat} (hi : i < 324) : Br.cell { x with room := r } i = if i = 323 then .float .f32 r else x.cell i := by
  unfold Br.cell
  by_cases e : i = 323
  · subst e; rfl
  · rw [if_neg e]
    by_cases h1 : i < 195
    · rw [if_pos h1, if_pos h1]
    · rw [if_neg h1, if_neg h1]
      by_cases h2 : i < 259
      · rw [if_pos h2, if_pos h2]
      · rw [if_neg h2, if_neg h2, if_pos (by omega), if_pos (by omega)]
theorem wpList_putBR {x : Br} {r : Nat} (hg : Blk w B (arrB x) t) (hx : a.eval X = .pointer (some ⟨B, 323, none⟩)) (hy : a.eval Y = .float .f32 r)
    (h : ∀ w', w'.heap.size = w.heap.size → Blk w' B (arrB { x with room := r }) t → w.grownBy w' (some B) → wpList Try.prog ops Q rest (a.put dst undef) w') : wpList Try.prog ops Q (⟨dst, .store 23 X Y, ty, pos, after, none⟩ :: rest) a w :=
  wpList_put1 size32 hg (by rw [arrB_size]; omega) hx hy rfl rfl (by rw [arrB_set1 (by omega) fun i hi => cell_setR x r hi]; exact h)
end

theorem BAt.grown {w w' : World} {b r : Nat} {x : Br} (h : BAt w b x) (hg : w.grownBy w' (some r)) (hne : b ≠ r) : BAt w' b x := fun i hi => cell_grown (h i hi) hg hne

set_option maxRecDepth 100000 in
set_option maxHeartbeats 800000 in
theorem toBrine_any (x : Br) (w : World) :
    Calls Try.prog 16 #[.agg (arrB x)] w fun e w' => e = .returned (.agg (arrB x)) ∧ Below w.heap.size w w' := by
  go_enter Try.func16, Try.ntmps16
  go_wp2_with (with_reducible refine wpList_box rfl ?_)
  intro A wA hA1 hA2 hA3 hA4
  go_wp2_with (with_reducible refine wpList_new newB ?_)
  intro R wR hR1 hR2 hR3 hR4
  go_wp2_with (with_reducible refine wpList_new newB ?_)
  intro B wB hB1 hB2 hB3 hB4
  have HA := BAt.of_blk ((hA3.later hR4).later hB4)
  have HR := hR3.later hB4
  have HBel : Below w.heap.size w wB := (hA4.trans (hR4.mono hA4.size)).trans (hB4.mono (Nat.le_trans hA4.size hR4.size))
  have hwB : w.heap.size ≤ wB.heap.size := HBel.size
  have hwb : w.heap.size ≤ B := by have := hA4.size; omega
  have HK := grown_refl wB (some B)
  go_wp2_with ((with_reducible refine wpList_getAt (T := 27) (b := A) (o := 0) (cs := arrG x.gr) Try.underlying27 ?_ ?_ HA.rg ?_ ?_); rfl; (rw [arrG_size]; exact sizeLG); rfl)
  refine (toGround_any x.gr wB).mono ?_
  rintro e w1 ⟨rfl, hb1⟩
  have HK1 := grown_trans HK (grown_below hb1)
  go_wp2_with ((with_reducible refine wpList_putBG (x := B0) (g := x.gr) (hB3.later hb1) ?_ ?_ ?_); rfl; rfl)
  intro w2 s2 b2 k2
  have HK2 := grown_trans HK1 k2
  have HA2 := HA.grown HK2 (by omega)
  go_wp2_with ((with_reducible refine wpList_getAt (T := 24) (b := A) (o := 195) (cs := arrF x.s) Try.underlying24 ?_ ?_ HA2.fs.row ?_ ?_); rfl; (rw [arrF_size]; exact sizeA); rfl)
  refine (toField_any x.s w2).mono ?_
  rintro e w3 ⟨rfl, hb3⟩
  have HK3 := grown_trans HK2 (grown_below hb3)
  go_wp2_with ((with_reducible refine wpList_putBS (f := x.s) (b2.later hb3) ?_ ?_ ?_); rfl; rfl)
  intro w4 s4 b4 k4
  have HK4 := grown_trans HK3 k4
  have HA4 := HA.grown HK4 (by omega)
  go_wp2_with ((with_reducible refine wpList_getAt (T := 24) (b := A) (o := 259) (cs := arrF x.p) Try.underlying24 ?_ ?_ HA4.fp.row ?_ ?_); rfl; (rw [arrF_size]; exact sizeA); rfl)
  refine (toField_any x.p w4).mono ?_
  rintro e w5 ⟨rfl, hb5⟩
  have HK5 := grown_trans HK4 (grown_below hb5)
  go_wp2_with ((with_reducible refine wpList_putBP (f := x.p) (b4.later hb5) ?_ ?_ ?_); rfl; rfl)
  intro w6 s6 b6 k6
  have HK6 := grown_trans HK5 k6
  have h9 := (HA.grown HK6 (by omega)).room
  go_wp2_with ((with_reducible refine wpList_putBR (r := x.room) b6 ?_ ?_ ?_); rfl; rfl)
  intro w9 s9 b9 k9
  have HK9 := grown_trans HK6 k9
  have HR9 := HR.grown HK9 (by omega)
  clear h9
  go_wp2_with (first | ((with_reducible refine wpList_getB b9 ?_ ?_); rfl) | ((with_reducible refine wpList_putB (x := x) HR9 ?_ ?_ ?_); rfl; rfl))
  intro w10 s10 b10 k10
  go_wp2_with fail
  refine ret_cell1 rfl rfl (loadB b10) rfl ⟨rfl, ?_⟩
  exact below_grown (below_grown HBel HK9 hwB hwb) k10 (Nat.le_trans hwB HK9.size) (by omega)

set_option maxRecDepth 100000 in
set_option maxHeartbeats 800000 in
theorem eqBrine_any (x y : Br) (w : World) (h : x.n = y.n) :
    Calls Try.prog 25 #[.agg (arrB x), .agg (arrB y)] w (RetB true w) := by
  have h0 : Hid (x.gr.m = y.gr.m) := congrArg N.g h
  have h1 : Hid (fm x.s = fm y.s) := congrArg N.s h
  have h2 : Hid (fm x.p = fm y.p) := congrArg N.p h
  have h3 : Hid (fb x.room = fb y.room) := congrArg N.room h
  clear h
  go_enter Try.func25, Try.ntmps25
  go_wp2_with (with_reducible refine wpList_box rfl ?_)
  intro A wA hA1 hA2 hA3 hA4
  go_wp2_with (with_reducible refine wpList_box rfl ?_)
  intro B wB hB1 hB2 hB3 hB4
  have GA := BAt.of_blk (hA3.later hB4)
  have GB := BAt.of_blk hB3
  have HB := hA4.trans (hB4.mono hA4.size)
  clear hA3 hA4 hB3 hB4
  go_wp2_with (first | ((with_reducible refine wpList_getBG GA ?_ ?_); rfl) | ((with_reducible refine wpList_getBG GB ?_ ?_); rfl))
  refine (eqGround_any _ _ wB h0.out).mono ?_
  rintro e w1 ⟨rfl, hb1⟩
  have GA1 := GA.below hb1
  have GB1 := GB.below hb1
  have HB1 := HB.trans (hb1.mono HB.size)
  clear hb1 HB GA GB
  go_wp2_with (first | ((with_reducible refine wpList_getAt (T := 32) (b := A) (o := 195) (cs := arrF x.s) Try.underlying32 ?_ ?_ GA1.fs.row ?_ ?_); rfl; (rw [arrF_size]; exact sizeF); rfl) | ((with_reducible refine wpList_getAt (T := 32) (b := B) (o := 195) (cs := arrF y.s) Try.underlying32 ?_ ?_ GB1.fs.row ?_ ?_); rfl; (rw [arrF_size]; exact sizeF); rfl))
  refine (eqField_any _ _ w1 h1.out).mono ?_
  rintro e w2 ⟨rfl, hb2⟩
  have GA2 := GA1.below hb2
  have GB2 := GB1.below hb2
  have HB2 := HB1.trans (hb2.mono HB1.size)
  clear hb2 GA1 GB1 HB1
  go_wp2_with (first | ((with_reducible refine wpList_getAt (T := 32) (b := A) (o := 259) (cs := arrF x.p) Try.underlying32 ?_ ?_ GA2.fp.row ?_ ?_); rfl; (rw [arrF_size]; exact sizeF); rfl) | ((with_reducible refine wpList_getAt (T := 32) (b := B) (o := 259) (cs := arrF y.p) Try.underlying32 ?_ ?_ GB2.fp.row ?_ ?_); rfl; (rw [arrF_size]; exact sizeF); rfl))
  refine (eqField_any _ _ w2 h2.out).mono ?_
  rintro e w3 ⟨rfl, hb3⟩
  have a3 := (GA2.below hb3).room
  have b3 := (GB2.below hb3).room
  have HB3 := Lib.hid (HB2.trans (hb3.mono HB2.size))
  clear hb3 GA2 GB2 HB2
  go_wp2_with ((with_reducible refine wpList_wideG ?_ ?_ ?_ ?_ ?_); (exact rfl); (exact rfl); (exact Try.underlying39); (exact rfl); intro d n hd)
  rename_i d1 n1 hd1 _ _
  refine (sameFloat_any _ _ _ (by rw [hd1.out, hd.out]; exact congrArg wid h3.out)).mono ?_
  rintro e w10 ⟨rfl, hb10⟩
  have HB10 := Lib.hid ((below_drawn HB3.out _).trans (hb10.mono HB3.out.size))
  clear hb10
  go_wp2_with fail
  go_ret
  exact ⟨rfl, HB10.out⟩
end Go.Proofs.Ytfddjbpfahjleaa
