/- Brines in memory: a ground, its salt, its springs and its room. -/
import Derived.Test.YtfcphfdfpjmgiaaLM0
import Derived.Test.YtfcphfdfpjmgiaaOpen
import Derived.Test.YtfcphfdfpjmgiaaMid
namespace Go.Proofs.Ytfcphfdfpjmgiaa
open Go.ChangeShapes Go.WideShapes Go.ChangeAt Go.RowKit

/-- A brine's data: floats by their bits. -/
structure Br where
  gr : G
  s : Nat → Nat
  p : Nat → Nat
  room : Nat

def Br.cell (b : Br) (i : Nat) : Value :=
  if i < 195 then b.gr.cell i else if i < 259 then .float .f32 (b.s (i - 195)) else if i < 323 then .float .f32 (b.p (i - 259)) else .float .f32 b.room

/-- A brine as numbers. -/
structure N where
  g : M
  s : Nat → F
  p : Nat → F
  room : F
def Br.n (b : Br) : N := ⟨b.gr.m, fm b.s, fm b.p, fb b.room⟩

/-- A brine's cells as one row. -/
def arrB (b : Br) : Array Value := Array.ofFn (n := 324) fun i => b.cell i
theorem arrB_size (b : Br) : (arrB b).size = 324 := by simp [arrB]
theorem arrB_get (b : Br) {i : Nat} (h : i < 324) : (arrB b)[i]? = some (b.cell i) := by simp [arrB, h]
theorem arrB_one (b : Br) : (arrB b).all (·.oneCell') = true := by
  rw [Array.all_eq_true]
  intro i hi
  simp only [arrB, Array.getElem_ofFn]
  unfold Br.cell
  by_cases h : i < 195
  · rw [if_pos h]
    unfold G.cell
    repeat (first | rfl | split)
  · rw [if_neg h]
    repeat (first | rfl | split)

/-- A brine lies at the start of a block. -/
def BAt (w : World) (b : Nat) (x : Br) : Prop := ∀ i, i < 324 → w.cell? ⟨b, i, none⟩ = some (x.cell i)
theorem BAt.of_blk {w : World} {b : Nat} {x : Br} {t : TypeId} (h : Blk w b (arrB x) t) : BAt w b x := fun i hi => by
  rw [cell_of_row w b i _ t _ h, arrB_get x hi]
theorem BAt.below {w w' : World} {b : Nat} {x : Br} (h : BAt w b x) (hb : Below w.heap.size w w') : BAt w' b x := fun i hi => cell_below hb (h i hi)
theorem BAt.lt {w : World} {b : Nat} {x : Br} (h : BAt w b x) : b < w.heap.size := block_lt_of_cell (h 0 (by omega))
theorem BAt.g {w : World} {b : Nat} {x : Br} (h : BAt w b x) : GAt w b 0 x.gr := fun i hi => by
  rw [Nat.zero_add, h i (by omega)]; unfold Br.cell; rw [if_pos hi]
theorem BAt.s {w : World} {b : Nat} {x : Br} (h : BAt w b x) {k : Nat} (hk : k < 64) : w.cell? ⟨b, 195 + k, none⟩ = some (.float .f32 (x.s k)) := by
  rw [h _ (by omega)]; unfold Br.cell
  rw [if_neg (by omega), if_pos (by omega), Nat.add_sub_cancel_left]
theorem BAt.p {w : World} {b : Nat} {x : Br} (h : BAt w b x) {k : Nat} (hk : k < 64) : w.cell? ⟨b, 259 + k, none⟩ = some (.float .f32 (x.p k)) := by
  rw [h _ (by omega)]; unfold Br.cell
  rw [if_neg (by omega), if_neg (by omega), if_pos (by omega), Nat.add_sub_cancel_left]
theorem BAt.room {w : World} {b : Nat} {x : Br} (h : BAt w b x) : w.cell? ⟨b, 323, none⟩ = some (.float .f32 x.room) := h 323 (by omega)
theorem BAt.fs {w : World} {b : Nat} {x : Br} (h : BAt w b x) : FAt w b 195 x.s := fun _ hi => h.s hi
theorem BAt.fp {w : World} {b : Nat} {x : Br} (h : BAt w b x) : FAt w b 259 x.p := fun _ hi => h.p hi

theorem BAt.rg {w : World} {b : Nat} {x : Br} (h : BAt w b x) : RowAt w b 0 (arrG x.gr) := fun i v hv => by
  have hi : i < 195 := by have := (Array.getElem?_eq_some_iff.1 hv).1; rw [arrG_size] at this; exact this
  rw [arrG_get _ hi] at hv; cases hv; exact h.g i hi
theorem FAt.row {w : World} {b o : Nat} {f : Nat → Nat} (h : FAt w b o f) : RowAt w b o (arrF f) := fun i v hv => by
  have hi : i < 64 := by have := (Array.getElem?_eq_some_iff.1 hv).1; rw [arrF_size] at this; exact this
  rw [arrF_get _ hi] at hv; cases hv; exact h i hi

section
variable {ops : Array Oper} {Q : Exit → Act → World → Prop} {rest : List Oper} {a : Act} {w : World} {dst : Option Tmp} {ty : TypeId} {X Y : Operand} {pos : String} {after : Array Edge} {B : Nat} {t : TypeId}

/-- The ground of a brine is read. -/
theorem wpList_getBG {x : Br} {b : Nat} (hg : BAt w b x) (hx : a.eval X = .pointer (some ⟨b, 0, none⟩))
    (h : wpList Try.prog ops Q rest (a.put dst (.agg (arrG x.gr))) w) : wpList Try.prog ops Q (⟨dst, .load 30 X, ty, pos, after, none⟩ :: rest) a w :=
  wpList_getAt Try.underlying30 rfl (by rw [arrG_size]; exact sizeG) hg.rg hx h
end

theorem sizeB : (Try.prog.info? 54).map (·.size) = some 324 := by kernel_rfl
def B0 : Br := ⟨G0, fun _ => 0, fun _ => 0, 0⟩
theorem newB (w : World) : (Instr.alloc 54 true (.tuple #[])).run Try.prog w = .ok (.pointer (some ⟨w.heap.size, 0, none⟩)) (w.alloc (.cells (arrB B0) 54)) := by kernel_rfl
theorem zeroB (w : World) : (Instr.build 54 #[]).run Try.prog w = .ok (.agg (arrB B0)) w := by kernel_rfl

section
variable {ops : Array Oper} {Q : Exit → Act → World → Prop} {rest : List Oper} {a : Act} {w : World} {dst : Option Tmp} {ty : TypeId} {X Y : Operand} {pos : String} {after : Array Edge} {B : Nat} {t : TypeId}
theorem wpList_putB {x0 x : Br} (hg : Blk w B (arrB x0) t) (hx : a.eval X = .pointer (some ⟨B, 0, none⟩)) (hy : a.eval Y = .agg (arrB x))
    (h : ∀ w', w'.heap.size = w.heap.size → Blk w' B (arrB x) t → w.grownBy w' (some B) → wpList Try.prog ops Q rest (a.put dst undef) w') : wpList Try.prog ops Q (⟨dst, .store 54 X Y, ty, pos, after, none⟩ :: rest) a w :=
  wpList_put hg (by rw [arrB_size]; exact sizeB) (by rw [arrB_size, arrB_size]) (arrB_one x) hx hy h
theorem wpList_getB {x : Br} (hg : Blk w B (arrB x) t) (hx : a.eval X = .pointer (some ⟨B, 0, none⟩))
    (h : wpList Try.prog ops Q rest (a.put dst (.agg (arrB x))) w) : wpList Try.prog ops Q (⟨dst, .load 54 X, ty, pos, after, none⟩ :: rest) a w :=
  wpList_get hg Try.underlying54 rfl (by rw [arrB_size]; exact sizeB) hx h
theorem loadB {x : Br} (hB : Blk w B (arrB x) t) : (loadVar 54 ⟨B, 0, none⟩).run Try.prog w = .ok (.agg (arrB x)) w := run_loadVar_row w B t _ _ _ _ hB Try.underlying54 rfl (by rw [arrB_size]; exact sizeB)

theorem arrB_set1 {x x' : Br} {k : Nat} {v : Value} (hk : k < 324) (h : ∀ i, i < 324 → x'.cell i = if i = k then v else x.cell i) : (arrB x).setIfInBounds k v = arrB x' := by
  apply Array.ext_getElem?
  intro i
  rw [Array.getElem?_setIfInBounds]
  by_cases hi : i < 324
  · rw [arrB_get _ hi, arrB_get _ hi, arrB_size, h i hi]
    by_cases e : k = i
    · rw [if_pos e, if_pos (by omega), if_pos e.symm]
    · rw [if_neg e, if_neg (fun x => e x.symm)]
  · rw [if_neg (by omega), Array.getElem?_eq_none (by rw [arrB_size]; omega), Array.getElem?_eq_none (by rw [arrB_size]; omega)]
theorem cell_setS (x : Br) {k : Nat} (hk : k < 64) (r i : Nat) : Br.cell { x with s := upd x.s k r } i = if i = 195 + k then .float .f32 r else x.cell i := by
  unfold Br.cell upd
  by_cases e : i = 195 + k
  · subst e
    rw [if_neg (by omega), if_pos (by omega)]
    dsimp only
    rw [if_pos (by omega), if_pos rfl]
  · rw [if_neg e]
    by_cases h1 : i < 195
    · rw [if_pos h1, if_pos h1]
    · rw [if_neg h1, if_neg h1]
      by_cases h2 : i < 259
      · rw [if_pos h2, if_pos h2]
        dsimp only
        rw [if_neg (by omega)]
      · rw [if_neg h2, if_neg h2]
/-- A cell's salt is stored. -/
theorem wpList_setS {x : Br} {k r : Nat} (hg : Blk w B (arrB x) t) (hk : k < 64) (hx : a.eval X = .pointer (some ⟨B, 195 + k, none⟩)) (hy : a.eval Y = .float .f32 r)
    (h : ∀ w', w'.heap.size = w.heap.size → Blk w' B (arrB { x with s := upd x.s k r }) t → w.grownBy w' (some B) → wpList Try.prog ops Q rest (a.put dst undef) w') : wpList Try.prog ops Q (⟨dst, .store 25 X Y, ty, pos, after, none⟩ :: rest) a w :=
  wpList_put1 size32 hg (by rw [arrB_size]; omega) hx hy rfl rfl (by rw [arrB_set1 (by omega) fun i _ => cell_setS x hk r i]; exact h)
end

/-- What is known of a brine's numbers: each fits its kind. -/
structure Br.Fit (x : Br) : Prop where
  g : x.gr.Fit
  fs : ∀ i, i < 64 → x.s i < 2 ^ 32
  fp : ∀ i, i < 64 → x.p i < 2 ^ 32
  fr : x.room < 2 ^ 32

end Go.Proofs.Ytfcphfdfpjmgiaa
