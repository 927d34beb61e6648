/- Brines in memory: a ground, its salt, its springs and its room. -/
import Derived.Test.YtfddjbpfahjleaaFix
import Derived.Test.YtfddjbpfahjleaaOpen
namespace Go.Proofs.Ytfddjbpfahjleaa
open Go.ChangeShapes Go.WideShapes Go.ChangeAt Go.RowKit

/-- A brine's data: floats by their bits. -/
structure Br where
  gr : G
  s : Nat → Nat
  p : Nat → Nat
  room : Nat

def Br.cell (b : Br) (i : Nat) : Value :=
  if i < 195 then b.gr.cell i else if i < 259 then .float .f32 (b.s (i - 195)) else if i < 323 then .float .f32 (b.p (i - 259)) else .float .f32 b.room

/-- A brine as numbers. -/
structure N where
  g : M
  s : Nat → F
  p : Nat → F
  room : F
def Br.n (b : Br) : N := ⟨b.gr.m, fm b.s, fm b.p, fb b.room⟩

/-- A brine's cells as one row. -/
def arrB (b : Br) : Array Value := Array.ofFn (n := 324) fun i => b.cell i
theorem arrB_size (b : Br) : (arrB b).size = 324 := by simp [arrB]
theorem arrB_get (b : Br) {i : Nat} (h : i < 324) : (arrB b)[i]? = some (b.cell i) := by simp [arrB, h]
theorem arrB_one (b : Br) : (arrB b).all (·.oneCell') = true := by
  rw [Array.all_eq_true]
  intro i hi
  simp only [arrB, Array.getElem_ofFn]
  unfold Br.cell
  by_cases h : i < 195
  · rw [if_pos h]
    unfold G.cell
    repeat (first | rfl | split)
  · rw [if_neg h]
    repeat (first | rfl | split)

/-- A brine lies at the start of a block. -/
def BAt (w : World) (b : Nat) (x : Br) : Prop := ∀ i, i < 324 → w.cell? ⟨b, i, none⟩ = some (x.cell i)
theorem BAt.of_blk {w : World} {b : Nat} {x : Br} {t : TypeId} (h : Blk w b (arrB x) t) : BAt w b x := fun i hi => by
  rw [cell_of_row w b i _ t _ h, arrB_get x hi]
theorem BAt.below {w w' : World} {b : Nat} {x : Br} (h : BAt w b x) (hb : Below w.heap.size w w') : BAt w' b x := fun i hi => cell_below hb (h i hi)
theorem BAt.lt {w : World} {b : Nat} {x : Br} (h : BAt w b x) : b < w.heap.size := block_lt_of_cell (h 0 (by omega))
theorem BAt.g {w : World} {b : Nat} {x : Br} (h : BAt w b x) : GAt w b 0 x.gr := fun i hi => by
  rw [Nat.zero_add, h i (by omega)]; unfold Br.cell; rw [if_pos hi]
theorem BAt.s {w : World} {b : Nat} {x : Br} (h : BAt w b x) {k : Nat} (hk : k < 64) : w.cell? ⟨b, 195 + k, none⟩ = some (.float .f32 (x.s k)) := by
  rw [h _ (by omega)]; unfold Br.cell
  rw [if_neg (by omega), if_pos (by omega), Nat.add_sub_cancel_left]
theorem BAt.p {w : World} {b : Nat} {x : Br} (h : BAt w b x) {k : Nat} (hk : k < 64) : w.cell? ⟨b, 259 + k, none⟩ = some (.float .f32 (x.p k)) := by
  rw [h _ (by omega)]; unfold Br.cell
  rw [if_neg (by omega), if_neg (by omega), if_pos (by omega), Nat.add_sub_cancel_left]
theorem BAt.room {w : World} {b : Nat} {x : Br} (h : BAt w b x) : w.cell? ⟨b, 323, none⟩ = some (.float .f32 x.room) := h 323 (by omega)
theorem BAt.fs {w : World} {b : Nat} {x : Br} (h : BAt w b x) : FAt w b 195 x.s := fun _ hi => h.s hi
theorem BAt.fp {w : World} {b : Nat} {x : Br} (h : BAt w b x) : FAt w b 259 x.p := fun _ hi => h.p hi

/-! Rows in the middle of a block. -/
def RowAt (w : World) (b o : Nat) (cs : Array Value) : Prop := ∀ i v, cs[i]? = some v → w.cell? ⟨b, o + i, none⟩ = some v
theorem BAt.rg {w : World} {b : Nat} {x : Br} (h : BAt w b x) : RowAt w b 0 (arrG x.gr) := fun i v hv => by
  have hi : i < 195 := by have := (Array.getElem?_eq_some_iff.1 hv).1; rw [arrG_size] at this; exact this
  rw [arrG_get _ hi] at hv; cases hv; exact h.g i hi
theorem FAt.row {w : World} {b o : Nat} {f : Nat → Nat} (h : FAt w b o f) : RowAt w b o (arrF f) := fun i v hv => by
  have hi : i < 64 := by have := (Array.getElem?_eq_some_iff.1 hv).1; rw [arrF_size] at this; exact this
  rw [arrF_get _ hi] at hv; cases hv; exact h i hi

section
variable {ops : Array Oper} {Q : Exit → Act → World → Prop} {rest : List Oper} {a : Act} {w : World} {dst : Option Tmp} {ty : TypeId} {X Y : Operand} {pos : String} {after : Array Edge} {B : Nat} {t : TypeId}

/-- A row is read out of the middle of a block. -/
theorem wpList_getAt {T : TypeId} {d : TypeDesc} {b o : Nat} {cs : Array Value} (hu : Try.prog.underlying T = some d) (hd : (match d with | .struct _ | .array _ _ => true | _ => false) = true) (hi : (Try.prog.info? T).map (·.size) = some cs.size)
    (hf : RowAt w b o cs) (hx : a.eval X = .pointer (some ⟨b, o, none⟩))
    (h : wpList Try.prog ops Q rest (a.put dst (.agg cs)) w) : wpList Try.prog ops Q (⟨dst, .load T X, ty, pos, after, none⟩ :: rest) a w :=
  wpList_ran rfl (by
    obtain ⟨ti, h1, h2⟩ := Option.map_eq_some_iff.1 hi
    have hagg : (isAgg T).run Try.prog w = .ok true w := by
      unfold isAgg
      rw [Sem.run_bind, run_underlying hu w]
      cases d <;> simp_all
    have hl := run_loadCells_list (P := Try.prog) w ⟨b, o, none⟩ cs.toList (fun j v hv => by
      rw [Array.getElem?_toList] at hv
      rw [Addr.add_lit]
      exact hf j v hv)
    rw [Array.length_toList] at hl
    simp only [execOp, hx, Instr.loadAt, Instr.sureAddr, loadVar]
    simp [Sem.run_bind, hagg, sizeOf, typeInfo, h1, h2, hl]) h

/-- A row is stored into the middle of a block. -/
theorem wpList_putAt {T : TypeId} {o : Nat} {cs old new : Array Value} (hi : (Try.prog.info? T).map (·.size) = some cs.size) (hone : cs.all (·.oneCell') = true) (hg : Blk w B old t) (ho : o + cs.size ≤ old.size)
    (hs : new.size = old.size) (hc : ∀ i, i < old.size → new[i]? = if o ≤ i ∧ i < o + cs.size then cs[i - o]? else old[i]?)
    (hx : a.eval X = .pointer (some ⟨B, o, none⟩)) (hy : a.eval Y = .agg cs)
    (h : ∀ w', w'.heap.size = w.heap.size → Blk w' B new t → w.grownBy w' (some B) → wpList Try.prog ops Q rest (a.put dst undef) w') : wpList Try.prog ops Q (⟨dst, .store T X Y, ty, pos, after, none⟩ :: rest) a w :=
  wpList_ranU rfl (by
    obtain ⟨ti, h1, h2⟩ := Option.map_eq_some_iff.1 hi
    have hst := run_storeCells_at (P := Try.prog) B o t cs.toList 0 old w hg (by rw [Array.length_toList]; omega) (fun v hv => (Array.all_eq_true_iff_forall_mem.1 hone) v (by simpa using hv))
    have e : (old.toList.take (o + 0) ++ cs.toList ++ old.toList.drop (o + 0 + cs.toList.length)).toArray = new := by
      apply Array.ext_getElem?
      intro i
      rw [List.getElem?_toArray]
      by_cases hi : i < old.size
      · rw [hc i hi]
        by_cases c1 : i < o
        · rw [if_neg (by omega), List.append_assoc, List.getElem?_append_left (by rw [List.length_take, Array.length_toList]; omega), List.getElem?_take, if_pos (by omega), Array.getElem?_toList]
        · by_cases c2 : i < o + cs.size
          · rw [if_pos ⟨by omega, c2⟩, List.append_assoc, List.getElem?_append_right (by rw [List.length_take, Array.length_toList]; omega), List.getElem?_append_left (by rw [List.length_take, Array.length_toList, Array.length_toList]; omega), List.length_take, Array.length_toList,
              show i - min (o + 0) old.size = i - o by omega, Array.getElem?_toList]
          · rw [if_neg (by omega), List.getElem?_append_right (by rw [List.length_append, List.length_take, Array.length_toList, Array.length_toList]; omega), List.length_append, List.length_take, Array.length_toList, Array.length_toList, List.getElem?_drop,
              show o + 0 + cs.size + (i - (min (o + 0) old.size + cs.size)) = i by omega, Array.getElem?_toList]
      · rw [Array.getElem?_eq_none (xs := new) (by omega), List.getElem?_eq_none (by rw [List.length_append, List.length_append, List.length_take, List.length_drop, Array.length_toList, Array.length_toList]; omega)]
    rw [e] at hst
    simp only [execOp, hx, hy, Instr.storeAt, Instr.sureAddr, storeVar]
    simp [Sem.run_bind, sizeOf, typeInfo, h1, h2, Value.cells, hst])
    (h _ (by simp) (hg.row_same _) ⟨rfl, rfl, rfl, by simp, fun k _ hk => setRow_other w B k _ (fun e => hk (by rw [e]))⟩)

/-- The ground of a brine is read. -/
theorem wpList_getBG {x : Br} {b : Nat} (hg : BAt w b x) (hx : a.eval X = .pointer (some ⟨b, 0, none⟩))
    (h : wpList Try.prog ops Q rest (a.put dst (.agg (arrG x.gr))) w) : wpList Try.prog ops Q (⟨dst, .load 34 X, ty, pos, after, none⟩ :: rest) a w :=
  wpList_getAt Try.underlying34 rfl (by rw [arrG_size]; exact sizeG) hg.rg hx h
end

theorem sizeB : (Try.prog.info? 36).map (·.size) = some 324 := by kernel_rfl
theorem sizeLB : (Try.prog.info? 29).map (·.size) = some 324 := by kernel_rfl
def B0 : Br := ⟨G0, fun _ => 0, fun _ => 0, 0⟩
theorem newB (w : World) : (Instr.alloc 36 true (.tuple #[])).run Try.prog w = .ok (.pointer (some ⟨w.heap.size, 0, none⟩)) (w.alloc (.cells (arrB B0) 36)) := by kernel_rfl
theorem zeroB (w : World) : (Instr.build 36 #[]).run Try.prog w = .ok (.agg (arrB B0)) w := by kernel_rfl

section
variable {ops : Array Oper} {Q : Exit → Act → World → Prop} {rest : List Oper} {a : Act} {w : World} {dst : Option Tmp} {ty : TypeId} {X Y : Operand} {pos : String} {after : Array Edge} {B : Nat} {t : TypeId}
theorem wpList_putB {x0 x : Br} (hg : Blk w B (arrB x0) t) (hx : a.eval X = .pointer (some ⟨B, 0, none⟩)) (hy : a.eval Y = .agg (arrB x))
    (h : ∀ w', w'.heap.size = w.heap.size → Blk w' B (arrB x) t → w.grownBy w' (some B) → wpList Try.prog ops Q rest (a.put dst undef) w') : wpList Try.prog ops Q (⟨dst, .store 36 X Y, ty, pos, after, none⟩ :: rest) a w :=
  wpList_put hg (by rw [arrB_size]; exact sizeB) (by rw [arrB_size, arrB_size]) (arrB_one x) hx hy h
theorem wpList_getB {x : Br} (hg : Blk w B (arrB x) t) (hx : a.eval X = .pointer (some ⟨B, 0, none⟩))
    (h : wpList Try.prog ops Q rest (a.put dst (.agg (arrB x))) w) : wpList Try.prog ops Q (⟨dst, .load 36 X, ty, pos, after, none⟩ :: rest) a w :=
  wpList_get hg Try.underlying36 rfl (by rw [arrB_size]; exact sizeB) hx h
theorem wpList_getLB {x : Br} (hg : Blk w B (arrB x) t) (hx : a.eval X = .pointer (some ⟨B, 0, none⟩))
    (h : wpList Try.prog ops Q rest (a.put dst (.agg (arrB x))) w) : wpList Try.prog ops Q (⟨dst, .load 29 X, ty, pos, after, none⟩ :: rest) a w :=
  wpList_get hg Try.underlying29 rfl (by rw [arrB_size]; exact sizeLB) hx h
theorem loadB {x : Br} (hB : Blk w B (arrB x) t) : (loadVar 36 ⟨B, 0, none⟩).run Try.prog w = .ok (.agg (arrB x)) w := run_loadVar_row w B t _ _ _ _ hB Try.underlying36 rfl (by rw [arrB_size]; exact sizeB)

theorem arrB_set1 {x x' : Br} {k : Nat} {v : Value} (hk : k < 324) (h : ∀ i, i < 324 → x'.cell i = if i = k then v else x.cell i) : (arrB x).setIfInBounds k v = arrB x' := by
  apply Array.ext_getElem?
  intro i
  rw [Array.getElem?_setIfInBounds]
  by_cases hi : i < 324
  · rw [arrB_get _ hi, arrB_get _ hi, arrB_size, h i hi]
    by_cases e : k = i
    · rw [if_pos e, if_pos (by omega), if_pos e.symm]
    · rw [if_neg e, if_neg (fun x => e x.symm)]
  · rw [if_neg (by omega), Array.getElem?_eq_none (by rw [arrB_size]; omega), Array.getElem?_eq_none (by rw [arrB_size]; omega)]
theorem cell_setS (x : Br) {k : Nat} (hk : k < 64) (r i : Nat) : Br.cell { x with s := upd x.s k r } i = if i = 195 + k then .float .f32 r else x.cell i := by
  unfold Br.cell upd
  by_cases e : i = 195 + k
  · subst e
    rw [if_neg (by omega), if_pos (by omega)]
    dsimp only
    rw [if_pos (by omega), if_pos rfl]
  · rw [if_neg e]
    by_cases h1 : i < 195
    · rw [if_pos h1, if_pos h1]
    · rw [if_neg h1, if_neg h1]
      by_cases h2 : i < 259
      · rw [if_pos h2, if_pos h2]
        dsimp only
        rw [if_neg (by omega)]
      · rw [if_neg h2, if_neg h2]
/-- A cell's salt is stored. -/
theorem wpList_setS {x : Br} {k r : Nat} (hg : Blk w B (arrB x) t) (hk : k < 64) (hx : a.eval X = .pointer (some ⟨B, 195 + k, none⟩)) (hy : a.eval Y = .float .f32 r)
    (h : ∀ w', w'.heap.size = w.heap.size → Blk w' B (arrB { x with s := upd x.s k r }) t → w.grownBy w' (some B) → wpList Try.prog ops Q rest (a.put dst undef) w') : wpList Try.prog ops Q (⟨dst, .store 23 X Y, ty, pos, after, none⟩ :: rest) a w :=
  wpList_put1 size32 hg (by rw [arrB_size]; omega) hx hy rfl rfl (by rw [arrB_set1 (by omega) fun i _ => cell_setS x hk r i]; exact h)
end

/-- What is known of a brine's numbers: each fits its kind. -/
structure Br.Fit (x : Br) : Prop where
  g : x.gr.Fit
  fs : ∀ i, i < 64 → x.s i < 2 ^ 32
  fp : ∀ i, i < 64 → x.p i < 2 ^ 32
  fr : x.room < 2 ^ 32

set_option maxRecDepth 100000 in
theorem brine_cells {H : Type} {enc : TypeId × Value → H} {w : World} {base fuel : Nat} {spare : Nat → Bool} {held : Bool} {cs : List Value} {x : DataW H × List MemPlace}
    (h : DataW.trod enc Try.prog w base spare held fuel 29 cs = some x) : ∃ b : Br, cs.toArray = arrB b ∧ b.Fit := by
  obtain ⟨xs, n, rfl, rfl, hl, hx, hf⟩ := DataW.trod_struct Try.underlying29 h
  have hc : Try.prog.cellsOf 29 = 324 := by kernel_rfl
  have cg : Try.prog.cellsOf 27 = 195 := by kernel_rfl
  have ca : Try.prog.cellsOf 24 = 64 := by kernel_rfl
  have c4 : Try.prog.cellsOf 23 = 1 := by kernel_rfl
  rw [hc] at hl
  have hx4 : xs.length = 4 := hx
  have f0 : DataW.trod enc Try.prog w base spare held n 27 ((cs.drop 0).take (Try.prog.cellsOf 27)) = xs[0]? := hf 0 _ rfl
  have f1 : DataW.trod enc Try.prog w base spare held n 24 ((cs.drop 195).take (Try.prog.cellsOf 24)) = xs[1]? := hf 1 _ rfl
  have f2 : DataW.trod enc Try.prog w base spare held n 24 ((cs.drop 259).take (Try.prog.cellsOf 24)) = xs[2]? := hf 2 _ rfl
  have f3 : DataW.trod enc Try.prog w base spare held n 23 ((cs.drop 323).take (Try.prog.cellsOf 23)) = xs[3]? := hf 3 _ rfl
  rw [cg] at f0
  rw [ca] at f1 f2
  rw [c4] at f3
  rw [List.getElem?_eq_getElem (by omega)] at f0 f1 f2 f3
  obtain ⟨g, hg, hgf⟩ := ground_cells f0
  obtain ⟨l1, a1⟩ := trod_field Try.underlying24 ca f1
  obtain ⟨l2, a2⟩ := trod_field Try.underlying24 ca f2
  obtain ⟨w3, e3, q3⟩ := trod_float Try.underlying23 f3
  have g3 : cs[323]? = some (.float .f32 w3) := by
    have := congrArg (fun l => l[0]?) e3
    simpa [List.getElem?_take, List.getElem?_drop] using this
  have g0 : ∀ i, i < 195 → cs[i]? = some (g.cell i) := fun i hi => by
    have := congrArg (fun l : Array Value => l[i]?) hg
    simp only [arrG_get g hi, List.getElem?_toArray, List.drop_zero, List.getElem?_take, if_pos hi] at this
    exact this
  have b1 : ∀ i, i < 64 → ∃ b, cs[195 + i]? = some (.float .f32 b) ∧ b < 2 ^ 32 := fun i hi => by
    obtain ⟨b, hb, hw⟩ := a1 i hi
    refine ⟨b, ?_, hw⟩
    rw [List.getElem?_take, if_pos hi, List.getElem?_drop] at hb
    exact hb
  have b2 : ∀ i, i < 64 → ∃ b, cs[259 + i]? = some (.float .f32 b) ∧ b < 2 ^ 32 := fun i hi => by
    obtain ⟨b, hb, hw⟩ := a2 i hi
    refine ⟨b, ?_, hw⟩
    rw [List.getElem?_take, if_pos hi, List.getElem?_drop] at hb
    exact hb
  refine ⟨⟨g, fun i => f32' (cs.getD (195 + i) undef), fun i => f32' (cs.getD (259 + i) undef), w3⟩, ?_, hgf, fun i hi => ?_, fun i hi => ?_, by simpa [Lit.wf] using q3⟩
  · apply Array.ext_getElem?
    intro i
    by_cases hi : i < 324
    · rw [arrB_get _ hi, List.getElem?_toArray]
      unfold Br.cell
      by_cases h0 : i < 195
      · rw [if_pos h0]; exact g0 i h0
      rw [if_neg h0]
      by_cases h1 : i < 259
      · rw [if_pos h1]
        obtain ⟨b, hb, _⟩ := b1 (i - 195) (by omega)
        simp only [getD_some hb]
        rw [show 195 + (i - 195) = i by omega] at hb
        exact hb
      rw [if_neg h1]
      by_cases h2 : i < 323
      · rw [if_pos h2]
        obtain ⟨b, hb, _⟩ := b2 (i - 259) (by omega)
        simp only [getD_some hb]
        rw [show 259 + (i - 259) = i by omega] at hb
        exact hb
      rw [if_neg h2, show i = 323 by omega]
      exact g3
    · rw [Array.getElem?_eq_none (xs := cs.toArray) (by simp only [List.size_toArray]; omega), Array.getElem?_eq_none (by rw [arrB_size]; omega)]
  · obtain ⟨b, hb, hw⟩ := b1 i hi; simp only [getD_some hb]; exact hw
  · obtain ⟨b, hb, hw⟩ := b2 i hi; simp only [getD_some hb]; exact hw

set_option maxRecDepth 100000 in
/-- A BRINE ARGUMENT, OPENED. -/
theorem open_brine {H : Type} {enc : TypeId × Value → H} {W : World} {r : Reach} {b0 base : Nat} {spare : Nat → Bool} {held : Bool} {v : Value} {d : DataW H} {ps : List MemPlace}
    (hv : Value.okWide Try.prog W r b0 29 v) (h : DataW.Trod enc Try.prog W base spare held 29 v d ps) : ∃ b : Br, v = .agg (arrB b) ∧ b.Fit := by
  obtain ⟨cs, rfl, _⟩ := okWide_struct Try.underlying29 hv
  obtain ⟨fuel, hf⟩ := h
  obtain ⟨b, hb, hfit⟩ := brine_cells hf
  refine ⟨b, ?_, hfit⟩
  rw [← hb]
  simp [Value.cells]
end Go.Proofs.Ytfddjbpfahjleaa
