/- The laws' copy of a ground is the ground. -/
import Derived.Test.YtekemhibnokhcaaDoorEq
namespace Go.Proofs.YtekemhibnokhcaaDoor
open Go.RowKit

theorem cell_setW (g : G) (v : Int) (i : Nat) : G.cell { g with wide := v } i = if i = 0 then .int .i8 v else g.cell i := by
  unfold G.cell
  by_cases h : i = 0
  · rw [if_pos h, if_pos h]
  · simp only [h, if_false]
theorem cell_setHi (g : G) (v : Int) (i : Nat) : G.cell { g with high := v } i = if i = 1 then .int .i8 v else g.cell i := by
  unfold G.cell
  by_cases h : i = 1
  · subst h; rfl
  · simp only [h, if_false]
theorem cell_setFx (g : G) (v : Int) {i : Nat} (hi : i < 195) : G.cell { g with fixed := v } i = if i = 194 then .int .u64 v else g.cell i := by
  unfold G.cell
  by_cases h : i = 194
  · subst h; rfl
  · rw [if_neg h]
    have : i < 194 := by omega
    simp only [this, if_true]
theorem cell_setC (g : G) (f : Nat → Nat) (i : Nat) : G.cell { g with c := f } i = if 2 ≤ i ∧ i < 66 then .float .f32 (f (i - 2)) else g.cell i := by
  unfold G.cell
  repeat' (first | (exfalso; omega) | split | rfl)
theorem cell_setG (g : G) (f : Nat → Nat) (i : Nat) : G.cell { g with g := f } i = if 66 ≤ i ∧ i < 130 then .float .f32 (f (i - 66)) else g.cell i := by
  unfold G.cell
  repeat' (first | (exfalso; omega) | split | rfl)
theorem cell_setHs (g : G) (f : Nat → Nat) (i : Nat) : G.cell { g with h := f } i = if 130 ≤ i ∧ i < 194 then .float .f32 (f (i - 130)) else g.cell i := by
  unfold G.cell
  repeat' (first | (exfalso; omega) | split | rfl)

theorem arrG_set1 {g g' : G} {k : Nat} {v : Value} (hk : k < 195) (h : ∀ i, i < 195 → g'.cell i = if i = k then v else g.cell i) : (arrG g).setIfInBounds k v = arrG g' := by
  apply Array.ext_getElem?
  intro i
  rw [Array.getElem?_setIfInBounds]
  by_cases hi : i < 195
  · rw [arrG_get _ hi, arrG_get _ hi, arrG_size, h i hi]
    by_cases e : k = i
    · rw [if_pos e, if_pos (by omega), if_pos e.symm]
    · rw [if_neg e, if_neg (fun x => e x.symm)]
  · rw [if_neg (by omega), Array.getElem?_eq_none (by rw [arrG_size]; omega), Array.getElem?_eq_none (by rw [arrG_size]; omega)]
/-- A field written into a ground's cells. -/
theorem arrG_splice {g g' : G} {f : Nat → Nat} {o : Nat} (ho : o + 64 ≤ 195) (h : ∀ i, i < 195 → g'.cell i = if o ≤ i ∧ i < o + 64 then .float .f32 (f (i - o)) else g.cell i) :
    ((arrG g).toList.take (o + 0) ++ (arrF f).toList ++ (arrG g).toList.drop (o + 0 + (arrF f).toList.length)).toArray = arrG g' := by
  have l1 : (arrG g).toList.length = 195 := by rw [Array.length_toList, arrG_size]
  have l2 : (arrF f).toList.length = 64 := by rw [Array.length_toList, arrF_size]
  apply Array.ext_getElem?
  intro i
  rw [List.getElem?_toArray, l2]
  by_cases hi : i < 195
  · rw [arrG_get _ hi, h i hi]
    by_cases c1 : i < o
    · rw [if_neg (by omega), List.append_assoc, List.getElem?_append_left (by rw [List.length_take, l1]; omega), List.getElem?_take, if_pos (by omega), Array.getElem?_toList, arrG_get _ hi]
    · by_cases c2 : i < o + 64
      · rw [if_pos ⟨by omega, c2⟩, List.append_assoc, List.getElem?_append_right (by rw [List.length_take, l1]; omega), List.getElem?_append_left (by rw [List.length_take, l1, l2]; omega), List.length_take, l1,
          show i - min (o + 0) 195 = i - o by omega, Array.getElem?_toList, arrF_get _ (by omega)]
      · rw [if_neg (by omega), List.getElem?_append_right (by rw [List.length_append, List.length_take, l1, l2]; omega), List.length_append, List.length_take, l1, l2, List.getElem?_drop,
          show o + 0 + 64 + (i - (min (o + 0) 195 + 64)) = i by omega, Array.getElem?_toList, arrG_get _ hi]
  · rw [Array.getElem?_eq_none (by rw [arrG_size]; omega), List.getElem?_eq_none (by rw [List.length_append, List.length_append, List.length_take, List.length_drop, l1, l2]; omega)]

theorem size8 : (Tryd.prog.info? 29).map (·.size) = some 1 := by kernel_rfl
theorem sizeU : (Tryd.prog.info? 32).map (·.size) = some 1 := by kernel_rfl
theorem sizeA : (Tryd.prog.info? 31).map (·.size) = some 64 := by kernel_rfl

section
variable {ops : Array Oper} {Q : Exit → Act → World → Prop} {rest : List Oper} {a : Act} {w : World} {dst : Option Tmp} {ty : TypeId} {X Y : Operand} {pos : String} {after : Array Edge} {B : Nat} {t : TypeId}

/-- A field is read out of the middle of a block. -/
theorem wpList_getFAt {T : TypeId} {d : TypeDesc} {b o : Nat} {f : Nat → Nat} (hu : Tryd.prog.underlying T = some d) (hd : (match d with | .struct _ | .array _ _ => true | _ => false) = true) (hi : (Tryd.prog.info? T).map (·.size) = some 64)
    (hf : FAt w b o f) (hx : a.eval X = .pointer (some ⟨b, o, none⟩))
    (h : wpList Tryd.prog ops Q rest (a.put dst (.agg (arrF f))) w) : wpList Tryd.prog ops Q (⟨dst, .load T X, ty, pos, after, none⟩ :: rest) a w :=
  wpList_ran rfl (by
    obtain ⟨ti, h1, h2⟩ := Option.map_eq_some_iff.1 hi
    have hagg : (isAgg T).run Tryd.prog w = .ok true w := by
      unfold isAgg
      rw [Sem.run_bind, run_underlying hu w]
      cases d <;> simp_all
    have hl := run_loadCells_list (P := Tryd.prog) w ⟨b, o, none⟩ (arrF f).toList (fun j v hv => by
      have hj : j < 64 := by
        have := (List.getElem?_eq_some_iff.1 hv).1
        rw [Array.length_toList, arrF_size] at this; exact this
      rw [Array.getElem?_toList, arrF_get f hj] at hv
      cases hv
      rw [Addr.add_lit]
      exact hf j hj)
    rw [Array.length_toList, arrF_size] at hl
    simp only [execOp, hx, Instr.loadAt, Instr.sureAddr, loadVar]
    simp [Sem.run_bind, hagg, sizeOf, typeInfo, h1, h2, hl]) h

/-- A field is stored into the middle of a ground's block. -/
theorem wpList_putFAt {o : Nat} {f : Nat → Nat} {g g' : G} (hg : Blk w B (arrG g) t) (ho : o + 64 ≤ 195) (hc : ∀ i, i < 195 → g'.cell i = if o ≤ i ∧ i < o + 64 then .float .f32 (f (i - o)) else g.cell i)
    (hx : a.eval X = .pointer (some ⟨B, o, none⟩)) (hy : a.eval Y = .agg (arrF f))
    (h : ∀ w', w'.heap.size = w.heap.size → Blk w' B (arrG g') t → w.grownBy w' (some B) → wpList Tryd.prog ops Q rest (a.put dst undef) w') : wpList Tryd.prog ops Q (⟨dst, .store 36 X Y, ty, pos, after, none⟩ :: rest) a w :=
  wpList_ranU rfl (by
    obtain ⟨ti, h1, h2⟩ := Option.map_eq_some_iff.1 sizeF
    have hst := run_storeCells_at (P := Tryd.prog) B o t (arrF f).toList 0 (arrG g) w hg (by rw [Array.length_toList, arrF_size, arrG_size]; omega) (fun v hv => (Array.all_eq_true_iff_forall_mem.1 (arrF_one f)) v (by simpa using hv))
    rw [arrG_splice ho hc] at hst
    simp only [execOp, hx, hy, Instr.storeAt, Instr.sureAddr, storeVar]
    simp [Sem.run_bind, sizeOf, typeInfo, h1, h2, Value.cells, arrF_size, hst])
    (h _ (by simp) (hg.row_same _) ⟨rfl, rfl, rfl, by simp, fun k _ hk => setRow_other w B k _ (fun e => hk (by rw [e]))⟩)

theorem wpList_setG {k : Nat} {v : Value} {T : TypeId} {g g' : G} (hT : (Tryd.prog.info? T).map (·.size) = some 1) (hg : Blk w B (arrG g) t) (hk : k < 195) (hc : ∀ i, i < 195 → g'.cell i = if i = k then v else g.cell i) (hv : v.oneCell' = true) (hcs : v.cells = #[v])
    (hx : a.eval X = .pointer (some ⟨B, k, none⟩)) (hy : a.eval Y = v)
    (h : ∀ w', w'.heap.size = w.heap.size → Blk w' B (arrG g') t → w.grownBy w' (some B) → wpList Tryd.prog ops Q rest (a.put dst undef) w') : wpList Tryd.prog ops Q (⟨dst, .store T X Y, ty, pos, after, none⟩ :: rest) a w :=
  wpList_put1 hT hg (by rw [arrG_size]; exact hk) hx hy hv hcs (by rw [arrG_set1 hk hc]; exact h)
end

set_option maxRecDepth 100000 in
set_option maxHeartbeats 800000 in
theorem toGround_any (g : G) (w : World) :
    Calls Tryd.prog 11 #[.agg (arrG g)] w fun e w' => e = .returned (.agg (arrG g)) ∧ Below w.heap.size w w' := by
  go_enter Tryd.func11, Tryd.ntmps11
  go_wp2_with (with_reducible refine wpList_box rfl ?_)
  intro A wA hA1 hA2 hA3 hA4
  go_wp2_with (first | (with_reducible refine wpList_new newF ?_) | (with_reducible refine wpList_zero (zeroF _) ?_) | (with_reducible refine wpList_new newG ?_) | (with_reducible refine wpList_zero (zeroG _) ?_))
  intro R wR hR1 hR2 hR3 hR4
  go_wp2_with (first | (with_reducible refine wpList_new newF ?_) | (with_reducible refine wpList_zero (zeroF _) ?_) | (with_reducible refine wpList_new newG ?_) | (with_reducible refine wpList_zero (zeroG _) ?_))
  intro B wB hB1 hB2 hB3 hB4
  have HA := GAt.of_blk ((hA3.later hR4).later hB4)
  have HR := hR3.later hB4
  have HBel : Below w.heap.size w wB := (hA4.trans (hR4.mono hA4.size)).trans (hB4.mono (Nat.le_trans hA4.size hR4.size))
  have hwB : w.heap.size ≤ wB.heap.size := HBel.size
  have hwb : w.heap.size ≤ B := by have := hA4.size; omega
  have HK := grown_refl wB (some B)
  have h0 := HA.wide
  go_wp2_with ((with_reducible refine wpList_setG (k := 0) (v := .int .i8 g.wide) (g' := { G0 with wide := g.wide }) size8 hB3 ?_ ?_ ?_ ?_ ?_ ?_ ?_); (exact by omega); (exact fun i _ => cell_setW G0 _ i); rfl; rfl; rfl; rfl)
  intro w1 s1 b1 k1
  have HK1 := grown_trans HK k1
  have HA1 := HA.grown HK1 (by omega)
  have h1 : w1.cell? ⟨A, 1, none⟩ = some (.int .i8 g.high) := HA1.high
  go_wp2_with ((with_reducible refine wpList_setG (k := 1) (v := .int .i8 g.high) (g' := { G0 with wide := g.wide, high := g.high }) size8 b1 ?_ ?_ ?_ ?_ ?_ ?_ ?_); (exact by omega); (exact fun i _ => cell_setHi ({ G0 with wide := g.wide } : G) _ i); rfl; rfl; rfl; rfl)
  intro w2 s2 b2 k2
  have HK2 := grown_trans HK1 k2
  have HA2 := HA.grown HK2 (by omega)
  clear h0 h1
  go_wp2_with ((with_reducible refine wpList_getFAt (T := 31) (b := A) (o := 2) (f := g.c) Tryd.underlying31 ?_ sizeA (show FAt w2 A 2 g.c from HA2.fc) ?_ ?_); rfl; rfl)
  refine (toField_any g.c w2).mono ?_
  rintro e w3 ⟨rfl, hb3⟩
  have HK3 := grown_trans HK2 (grown_below hb3)
  go_wp2_with ((with_reducible refine wpList_putFAt (o := 2) (f := g.c) (g' := { G0 with wide := g.wide, high := g.high, c := g.c }) (b2.later hb3) ?_ ?_ ?_ ?_ ?_); (exact by omega); (exact fun i _ => cell_setC ({ G0 with wide := g.wide, high := g.high } : G) _ i); rfl; rfl)
  intro w4 s4 b4 k4
  have HK4 := grown_trans HK3 k4
  have HA4 := HA.grown HK4 (by omega)
  go_wp2_with ((with_reducible refine wpList_getFAt (T := 31) (b := A) (o := 66) (f := g.g) Tryd.underlying31 ?_ sizeA (show FAt w4 A 66 g.g from HA4.fg) ?_ ?_); rfl; rfl)
  refine (toField_any g.g w4).mono ?_
  rintro e w5 ⟨rfl, hb5⟩
  have HK5 := grown_trans HK4 (grown_below hb5)
  go_wp2_with ((with_reducible refine wpList_putFAt (o := 66) (f := g.g) (g' := { G0 with wide := g.wide, high := g.high, c := g.c, g := g.g }) (b4.later hb5) ?_ ?_ ?_ ?_ ?_); (exact by omega); (exact fun i _ => cell_setG ({ G0 with wide := g.wide, high := g.high, c := g.c } : G) _ i); rfl; rfl)
  intro w6 s6 b6 k6
  have HK6 := grown_trans HK5 k6
  have HA6 := HA.grown HK6 (by omega)
  go_wp2_with ((with_reducible refine wpList_getFAt (T := 31) (b := A) (o := 130) (f := g.h) Tryd.underlying31 ?_ sizeA (show FAt w6 A 130 g.h from HA6.fh) ?_ ?_); rfl; rfl)
  refine (toField_any g.h w6).mono ?_
  rintro e w7 ⟨rfl, hb7⟩
  have HK7 := grown_trans HK6 (grown_below hb7)
  go_wp2_with ((with_reducible refine wpList_putFAt (o := 130) (f := g.h) (g' := { G0 with wide := g.wide, high := g.high, c := g.c, g := g.g, h := g.h }) (b6.later hb7) ?_ ?_ ?_ ?_ ?_); (exact by omega); (exact fun i _ => cell_setHs ({ G0 with wide := g.wide, high := g.high, c := g.c, g := g.g } : G) _ i); rfl; rfl)
  intro w8 s8 b8 k8
  have HK8 := grown_trans HK7 k8
  have HA8 := HA.grown HK8 (by omega)
  have h9 : w8.cell? ⟨A, 194, none⟩ = some (.int .u64 g.fixed) := HA8.fixed
  go_wp2_with ((with_reducible refine wpList_setG (k := 194) (v := .int .u64 g.fixed) (g' := g) sizeU b8 ?_ ?_ ?_ ?_ ?_ ?_ ?_); (exact by omega); (exact fun i hi => cell_setFx ({ G0 with wide := g.wide, high := g.high, c := g.c, g := g.g, h := g.h } : G) _ hi); rfl; rfl; rfl; rfl)
  intro w9 s9 b9 k9
  have HK9 := grown_trans HK8 k9
  have HR9 := HR.grown HK9 (by omega)
  clear h9
  go_wp2_with (first | ((with_reducible refine wpList_getG b9 ?_ ?_); rfl) | ((with_reducible refine wpList_putG (g := g) HR9 ?_ ?_ ?_); rfl; rfl))
  intro w10 s10 b10 k10
  go_wp2_with fail
  refine ret_cell1 rfl rfl (loadG b10) rfl ⟨rfl, ?_⟩
  exact below_grown (below_grown HBel HK9 hwB hwb) k10 (Nat.le_trans hwB HK9.size) (by omega)

theorem sizeLG : (Tryd.prog.info? 34).map (·.size) = some 195 := by kernel_rfl
theorem wpList_getL {ops : Array Oper} {Q : Exit → Act → World → Prop} {rest : List Oper} {a : Act} {w : World} {dst : Option Tmp} {ty : TypeId} {X : Operand} {pos : String} {after : Array Edge} {B : Nat} {t : TypeId} {g : G}
    (hg : Blk w B (arrG g) t) (hx : a.eval X = .pointer (some ⟨B, 0, none⟩))
    (h : wpList Tryd.prog ops Q rest (a.put dst (.agg (arrG g))) w) : wpList Tryd.prog ops Q (⟨dst, .load 34 X, ty, pos, after, none⟩ :: rest) a w :=
  wpList_get hg Tryd.underlying34 rfl (by rw [arrG_size]; exact sizeLG) hx h
end Go.Proofs.YtekemhibnokhcaaDoor
