/- Grounds: in memory, valid ones, balances, fixed cells. -/
import Derived.Test.YtfcphfdfpjmgiaaRows
import Derived.Test.YtfcphfdfpjmgiaaSoft
import Derived.Lib.Hide
import Derived.Deep.QuietTactic
import Derived.BigQuiet
import Derived.Laws.BitsAllLaws
namespace Go.Proofs.Ytfcphfdfpjmgiaa
open Go.RowKit

/-- A ground's data: floats by their bits. -/
structure G where
  wide : Int
  high : Int
  c : Nat → Nat
  g : Nat → Nat
  h : Nat → Nat
  fixed : Int

def G.cell (g : G) (i : Nat) : Value :=
  if i = 0 then .int .i8 g.wide else if i = 1 then .int .i8 g.high else if i < 66 then .float .f32 (g.c (i - 2)) else if i < 130 then .float .f32 (g.g (i - 66))
  else if i < 194 then .float .f32 (g.h (i - 130)) else .int .u64 g.fixed

/-- The numbers of a field, by a field's bits. -/
def fm (f : Nat → Nat) (i : Nat) : F := if i < 64 then fb (f i) else none
theorem fm_of {f : Nat → Nat} {i : Nat} (h : i < 64) : fm f i = fb (f i) := if_pos h
theorem fm_out {f : Nat → Nat} {i : Nat} (h : ¬ i < 64) : fm f i = none := if_neg h
def upd {α : Type} (f : Nat → α) (k : Nat) (v : α) (i : Nat) : α := if i = k then v else f i
theorem fm_upd {f : Nat → Nat} {k : Nat} (hk : k < 64) (r : Nat) : fm (upd f k r) = upd (fm f) k (fb r) := by
  funext i
  unfold fm upd
  by_cases h : i = k
  · subst h; simp [hk]
  · simp [h]

/-- A ground as numbers. -/
structure M where
  wide : Int
  high : Int
  c : Nat → F
  g : Nat → F
  h : Nat → F
  fixed : Int
def G.m (g : G) : M := ⟨g.wide, g.high, fm g.c, fm g.g, fm g.h, g.fixed⟩

/-- A ground's cells as one row. -/
def arrG (g : G) : Array Value := Array.ofFn (n := 195) fun i => g.cell i
theorem arrG_size (g : G) : (arrG g).size = 195 := by simp [arrG]
theorem arrG_get (g : G) {i : Nat} (h : i < 195) : (arrG g)[i]? = some (g.cell i) := by simp [arrG, h]
theorem arrG_one (g : G) : (arrG g).all (·.oneCell') = true := by
  rw [Array.all_eq_true]
  intro i hi
  simp only [arrG, Array.getElem_ofFn]
  unfold G.cell
  repeat (first | rfl | split)
theorem cell_setH (g : G) {k : Nat} (hk : k < 64) (r i : Nat) : G.cell { g with h := upd g.h k r } i = if i = 130 + k then .float .f32 r else g.cell i := by
  unfold G.cell upd
  by_cases h1 : i < 194 ∧ 130 ≤ i
  · obtain ⟨p1, p2⟩ := h1
    have n0 : ¬ i = 0 := by omega
    have n1 : ¬ i = 1 := by omega
    have n2 : ¬ i < 66 := by omega
    have n3 : ¬ i < 130 := by omega
    simp only [n0, n1, n2, n3, p1, if_false, if_true]
    by_cases e : i = 130 + k
    · rw [if_pos e, if_pos (by omega)]
    · rw [if_neg e, if_neg (by omega)]
  · rw [if_neg (by omega : ¬ i = 130 + k)]
    repeat' (first | (exfalso; omega) | split | rfl)
theorem arrG_setH (g : G) {k : Nat} (hk : k < 64) (r : Nat) : (arrG g).setIfInBounds (130 + k) (.float .f32 r) = arrG { g with h := upd g.h k r } := by
  apply Array.ext_getElem?
  intro i
  rw [Array.getElem?_setIfInBounds]
  by_cases h : i < 195
  · rw [arrG_get _ h, arrG_get _ h, cell_setH g hk, arrG_size]
    by_cases e : 130 + k = i
    · rw [if_pos e, if_pos (by omega), if_pos e.symm]
    · rw [if_neg e, if_neg (by omega)]
  · rw [if_neg (by omega), Array.getElem?_eq_none (by rw [arrG_size]; omega), Array.getElem?_eq_none (by rw [arrG_size]; omega)]

/-- A field's cells as one row. -/
def arrF (f : Nat → Nat) : Array Value := Array.ofFn (n := 64) fun i => .float .f32 (f i)
theorem arrF_size (f : Nat → Nat) : (arrF f).size = 64 := by simp [arrF]
theorem arrF_get (f : Nat → Nat) {i : Nat} (h : i < 64) : (arrF f)[i]? = some (.float .f32 (f i)) := by simp [arrF, h]
theorem arrF_one (f : Nat → Nat) : (arrF f).all (·.oneCell') = true := by
  rw [Array.all_eq_true]
  intro i hi
  simp only [arrF, Array.getElem_ofFn]
  rfl
theorem arrF_set (f : Nat → Nat) (k r : Nat) : (arrF f).setIfInBounds k (.float .f32 r) = arrF (upd f k r) := by
  apply Array.ext_getElem?
  intro i
  rw [Array.getElem?_setIfInBounds]
  by_cases h : i < 64
  · rw [arrF_get _ h, arrF_get _ h, arrF_size]
    unfold upd
    by_cases e : k = i
    · rw [if_pos e, if_pos (by omega), if_pos e.symm]
    · rw [if_neg e, if_neg (fun x => e x.symm)]
  · rw [Array.getElem?_eq_none (xs := arrF (upd f k r)) (by rw [arrF_size]; omega)]
    split
    · rw [if_neg (by rw [arrF_size]; omega)]
    · rw [Array.getElem?_eq_none (by rw [arrF_size]; omega)]

/-- A block of the world. -/
def Blk (w : World) (b : Nat) (cs : Array Value) (t : TypeId) : Prop := w.heap[b]? = some (.cells cs t (0, 0))

/-- A ground lies at an address. -/
def GAt (w : World) (b o : Nat) (g : G) : Prop := ∀ i, i < 195 → w.cell? ⟨b, o + i, none⟩ = some (g.cell i)

theorem GAt.wide {w : World} {b o : Nat} {g : G} (h : GAt w b o g) : w.cell? ⟨b, o, none⟩ = some (.int .i8 g.wide) := h 0 (by omega)
theorem GAt.high {w : World} {b o : Nat} {g : G} (h : GAt w b o g) : w.cell? ⟨b, o + 1, none⟩ = some (.int .i8 g.high) := h 1 (by omega)
theorem GAt.c {w : World} {b o : Nat} {g : G} (h : GAt w b o g) {k : Nat} (hk : k < 64) : w.cell? ⟨b, o + 2 + k, none⟩ = some (.float .f32 (g.c k)) := by
  have := h (2 + k) (by omega)
  rw [← Nat.add_assoc] at this
  rw [this]; unfold G.cell
  rw [if_neg (by omega), if_neg (by omega), if_pos (by omega), Nat.add_sub_cancel_left]
theorem GAt.g {w : World} {b o : Nat} {g : G} (h : GAt w b o g) {k : Nat} (hk : k < 64) : w.cell? ⟨b, o + 66 + k, none⟩ = some (.float .f32 (g.g k)) := by
  have := h (66 + k) (by omega)
  rw [← Nat.add_assoc] at this
  rw [this]; unfold G.cell
  rw [if_neg (by omega), if_neg (by omega), if_neg (by omega), if_pos (by omega), Nat.add_sub_cancel_left]
theorem GAt.h {w : World} {b o : Nat} {g : G} (h : GAt w b o g) {k : Nat} (hk : k < 64) : w.cell? ⟨b, o + 130 + k, none⟩ = some (.float .f32 (g.h k)) := by
  have := h (130 + k) (by omega)
  rw [← Nat.add_assoc] at this
  rw [this]; unfold G.cell
  rw [if_neg (by omega), if_neg (by omega), if_neg (by omega), if_neg (by omega), if_pos (by omega), Nat.add_sub_cancel_left]
theorem GAt.fixed {w : World} {b o : Nat} {g : G} (h : GAt w b o g) : w.cell? ⟨b, o + 194, none⟩ = some (.int .u64 g.fixed) := h 194 (by omega)

theorem GAt.of_blk {w : World} {b : Nat} {g : G} {t : TypeId} (h : Blk w b (arrG g) t) : GAt w b 0 g := fun i hi => by
  rw [Nat.zero_add, cell_of_row w b i _ t _ h, arrG_get g hi]

/-- The cell beside a cell; -1 where there is none. -/
def besideXY (W H x y : Int) : Int := if x < 0 ∨ y < 0 ∨ W ≤ x ∨ H ≤ y then -1 else x + 8 * y
def beside (W H : Int) (k s : Nat) : Int :=
  let x : Int := (k % 8 : Nat)
  let y : Int := (k / 8 : Nat)
  if s = 0 then besideXY W H x (y - 1) else if s = 1 then besideXY W H (x + 1) y else if s = 2 then besideXY W H x (y + 1) else besideXY W H (x - 1) y

/-- The sides of a ground are those of small numbers. -/
def G.Rng (g : G) : Prop := (-128 ≤ g.wide ∧ g.wide ≤ 127) ∧ (-128 ≤ g.high ∧ g.high ≤ 127)

theorem ret_int {k : IntKind} {a b : Int} (h : a = b) : Ending.returned (.int k a) = .returned (.int k b) := by rw [h]
theorem ret_bool {a b : Bool} (h : a = b) : Ending.returned (.bool a) = .returned (.bool b) := by rw [h]

def hasB (W H : Int) (k : Nat) : Bool := decide (((k % 8 : Nat) : Int) < W) && decide (((k / 8 : Nat) : Int) < H)

set_option maxHeartbeats 400000 in
theorem has_any (b o k : Nat) (g : G) (w : World) (hk : k < 64) (hr : g.Rng) (hg : GAt w b o g) :
    Calls Try.prog 178 #[.pointer (some ⟨b, o, none⟩), .int .i64 k] w fun e w' => e = .returned (.bool (hasB g.wide g.high k)) ∧ w = w' := by
  have h0 := hg.wide
  have h1 := hg.high
  obtain ⟨⟨r0, r1⟩, ⟨r2, r3⟩⟩ := hr
  clear hg
  unfold hasB
  go_enter Try.func178, Try.ntmps178
  go_wp2_with fail
  all_goals
    go_ret
    exact ⟨ret_bool (by simp; omega), rfl⟩

set_option maxHeartbeats 400000 in
theorem beside_any (b o k s : Nat) (g : G) (w : World) (hk : k < 64) (hs : s < 4) (hr : g.Rng) (hg : GAt w b o g) :
    Calls Try.prog 164 #[.pointer (some ⟨b, o, none⟩), .int .i64 k, .int .i64 s] w fun e w' => e = .returned (.int .i64 (beside g.wide g.high k s)) ∧ w = w' := by
  have h0 := hg.wide
  have h1 := hg.high
  obtain ⟨⟨r0, r1⟩, ⟨r2, r3⟩⟩ := hr
  clear hg
  obtain rfl | rfl | rfl | rfl : s = 0 ∨ s = 1 ∨ s = 2 ∨ s = 3 := by omega
  all_goals
    go_enter Try.func164, Try.ntmps164
    go_wp2_with fail
    all_goals
      go_ret
      refine ⟨ret_int ?_, rfl⟩
      simp only [beside, besideXY]
      simp
      omega
end Go.Proofs.Ytfcphfdfpjmgiaa

namespace Go.Proofs.Ytfcphfdfpjmgiaa
open Go.RowKit

theorem below_drawn {B : Nat} {a w : World} (h : Below B a w) (n : Nat) : Below B a (w.drewN n) := ⟨h.os, h.tape, h.output, h.size, h.block⟩
theorem below_row {B g : Nat} {a w : World} (h : Below B a w) (hg : B ≤ g) (cs : Array Value) : Below B a (w.setRow g cs) :=
  h.trans ⟨rfl, rfl, rfl, by simp, fun k hk => setRow_other w g k cs (by omega)⟩

section
variable {w w' : World} {b : Nat} {cs : Array Value} {t : TypeId}
theorem Blk.lt (h : Blk w b cs t) : b < w.heap.size := (Array.getElem?_eq_some_iff.1 h).1
theorem Blk.alloc (h : Blk w b cs t) (o : Obj) : Blk (w.alloc o) b cs t := (Below.heap_alloc w o b h.lt).trans h
theorem Blk.new (w : World) (cs : Array Value) (t : TypeId) : Blk (w.alloc (.cells cs t)) w.heap.size cs t := heap_alloc_new w _
theorem Blk.new' (w : World) (cs : Array Value) (t : TypeId) (h : b = w.heap.size) : Blk (w.alloc (.cells cs t)) b cs t := by subst h; exact heap_alloc_new w _
theorem Blk.below {B : Nat} (h : Blk w b cs t) (hb : Below B w w') (hB : b < B) : Blk w' b cs t := (hb.block b hB).trans h
theorem Blk.later (h : Blk w b cs t) (hb : Below w.heap.size w w') : Blk w' b cs t := h.below hb h.lt
theorem Blk.drewN (h : Blk w b cs t) (n : Nat) : Blk (w.drewN n) b cs t := h
theorem Blk.row_same (h : Blk w b cs t) (cs' : Array Value) : Blk (w.setRow b cs') b cs' t := setRow_heap w b cs cs' t _ h
theorem Blk.row_ne (h : Blk w b cs t) {g : Nat} (hne : b ≠ g) (cs' : Array Value) : Blk (w.setRow g cs') b cs t := (setRow_other w g b cs' hne).trans h
theorem Blk.cell_same (h : Blk w b cs t) (i : Nat) (v : Value) : Blk (w.setCell ⟨b, i, none⟩ v) b (cs.setIfInBounds i v) t := heap_setCell_same w b i cs t v h
theorem Blk.cell_ne (h : Blk w b cs t) {a : Addr} (hne : b ≠ a.block) (v : Value) : Blk (w.setCell a v) b cs t := (heap_setCell_other w a b v hne).trans h
theorem Blk.at (h : Blk w b cs t) {i : Nat} {v : Value} (hv : cs[i]? = some v) : w.cell? ⟨b, i, none⟩ = some v := by rw [cell_of_row w b i cs t _ h]; exact hv
theorem Blk.free (h : Blk w b cs t) (i : Nat) : w.frozen? ⟨b, i, none⟩ = false := frozen_of_row w b i cs t h
end

section
variable {w w' w'' : World} {g : Nat} {cs : Array Value} {t : TypeId}
theorem grown_refl (w : World) (r : Option Nat) : w.grownBy w r := ⟨rfl, rfl, rfl, Nat.le_refl _, fun _ _ _ => rfl⟩
theorem grown_trans {r : Option Nat} (h : w.grownBy w' r) (h' : w'.grownBy w'' r) : w.grownBy w'' r :=
  ⟨h'.os.trans h.os, h'.tape.trans h.tape, h'.output.trans h.output, Nat.le_trans h.size h'.size, fun k hk hne => (h'.block k (Nat.lt_of_lt_of_le hk h.size) hne).trans (h.block k hk hne)⟩
theorem grown_below {r : Option Nat} (h : Below w.heap.size w w') : w.grownBy w' r := ⟨h.os, h.tape, h.output, h.size, fun k hk _ => h.block k hk⟩
theorem grown_drewN (w : World) (n : Nat) (r : Option Nat) : w.grownBy (w.drewN n) r := ⟨rfl, rfl, rfl, Nat.le_refl _, fun _ _ _ => rfl⟩
theorem Blk.grown {r : Nat} (h : Blk w g cs t) (hg : w.grownBy w' (some r)) (hne : g ≠ r) : Blk w' g cs t := (hg.block g h.lt (by simpa using hne)).trans h
theorem cell_grown {r b o : Nat} {v : Value} (h : w.cell? ⟨b, o, none⟩ = some v) (hg : w.grownBy w' (some r)) (hne : b ≠ r) : w'.cell? ⟨b, o, none⟩ = some v := hg.cell h (by simpa using hne)
theorem below_grown {B r : Nat} {a : World} (h : Below B a w) (hg : w.grownBy w' (some r)) (hB : B ≤ w.heap.size) (hr : B ≤ r) : Below B a w' := h.grown hg hB (fun k hk => by cases hk; exact hr)
end

section
variable {P : Program} {ops : Array Oper} {Q : Exit → Act → World → Prop} {rest : List Oper} {a : Act} {w : World} {dst : Option Tmp} {T ty : TypeId} {X Y : Operand} {pos : String} {after : Array Edge}

theorem wpList_ran {o : Oper} {v : Value} {w' : World} (hg : o.guard = none) (hr : (execOp a.eval o).run P w = .ok (.value v) w') (h : wpList P ops Q rest (a.put o.dst v) w') : wpList P ops Q (o :: rest) a w := by
  refine wpList_plain hg fun K hK => ?_
  unfold Oper.wp
  rw [hr]
  exact hK _ _ h

theorem wpList_ranU {o : Oper} {w' : World} (hg : o.guard = none) (hr : (execOp a.eval o).run P w = .ok .skip w') (h : wpList P ops Q rest (a.put o.dst undef) w') : wpList P ops Q (o :: rest) a w := by
  refine wpList_plain hg fun K hK => ?_
  unfold Oper.wp
  rw [hr]
  exact hK _ _ h

/-- A new variable. -/
theorem wpList_new {Z : Array Value} (hr : ∀ w : World, (Instr.alloc T true (.tuple #[])).run P w = .ok (.pointer (some ⟨w.heap.size, 0, none⟩)) (w.alloc (.cells Z T)))
    (h : ∀ B w', w.heap.size ≤ B → B < w'.heap.size → Blk w' B Z T → Below w.heap.size w w' → wpList P ops Q rest (a.put dst (.pointer (some ⟨B, 0, none⟩))) w') : wpList P ops Q (⟨dst, .alloc T, ty, pos, after, none⟩ :: rest) a w :=
  wpList_ran rfl (by simp [execOp, hr]) (h _ _ (Nat.le_refl _) (by simp) (Blk.new w Z T) ((Below.refl _ _).alloc (Nat.le_refl _) _))

/-- A variable of a parameter. -/
theorem wpList_box {Z : Array Value} (hx : a.eval X = .agg Z)
    (h : ∀ B w', w.heap.size ≤ B → B < w'.heap.size → Blk w' B Z T → Below w.heap.size w w' → wpList P ops Q rest (a.put dst (.pointer (some ⟨B, 0, none⟩))) w') : wpList P ops Q (⟨dst, .box T X, ty, pos, after, none⟩ :: rest) a w :=
  wpList_ran rfl (v := .pointer (some ⟨w.heap.size, 0, none⟩)) (w' := w.alloc (.cells Z T)) (by simp only [execOp, hx, Instr.box, newVar, newRow, newObj, Value.cells]; rfl) (h _ _ (Nat.le_refl _) (by simp) (Blk.new w Z T) ((Below.refl _ _).alloc (Nat.le_refl _) _))

/-- A zero composite. -/
theorem wpList_zero {v : Value} {w' : World} (hr : (Instr.build T #[]).run P w = .ok v w')
    (h : wpList P ops Q rest (a.put dst v) w') : wpList P ops Q (⟨dst, .build T #[], ty, pos, after, none⟩ :: rest) a w :=
  wpList_ran rfl (by simp [execOp, hr]) h

/-- A variable is stored whole. -/
theorem wpList_put {g : Nat} {cells old : Array Value} {t : TypeId} (hg : Blk w g old t) (hi : (P.info? T).map (·.size) = some cells.size) (ho : old.size = cells.size) (h1 : cells.all (·.oneCell') = true)
    (hx : a.eval X = .pointer (some ⟨g, 0, none⟩)) (hy : a.eval Y = .agg cells)
    (h : ∀ w', w'.heap.size = w.heap.size → Blk w' g cells t → w.grownBy w' (some g) → wpList P ops Q rest (a.put dst undef) w') : wpList P ops Q (⟨dst, .store T X Y, ty, pos, after, none⟩ :: rest) a w :=
  wpList_store_row rfl T X Y rfl g cells hx hy t old hg hi ho h1 (h _ (by simp) (hg.row_same cells) ⟨rfl, rfl, rfl, by simp, fun k _ hk => setRow_other w g k cells (fun e => hk (by rw [e]))⟩)

/-- A variable is read whole. -/
theorem wpList_get {g : Nat} {cells : Array Value} {t : TypeId} {d : TypeDesc} (hg : Blk w g cells t) (hu : P.underlying T = some d) (hd : (match d with | .struct _ | .array _ _ => true | _ => false) = true) (hi : (P.info? T).map (·.size) = some cells.size)
    (hx : a.eval X = .pointer (some ⟨g, 0, none⟩))
    (h : wpList P ops Q rest (a.put dst (.agg cells)) w) : wpList P ops Q (⟨dst, .load T X, ty, pos, after, none⟩ :: rest) a w :=
  wpList_load_row rfl T X rfl g hx t cells _ d hg hu hd hi h

theorem run_put1 {g i : Nat} {v : Value} {old : Array Value} {t : TypeId} (hT : (P.info? T).map (·.size) = some 1) (hv : v.oneCell' = true) (hc : v.cells = #[v]) (hg : Blk w g old t) (hlt : i < old.size) :
    (storeVar T ⟨g, i, none⟩ v).run P w = .ok () (w.setCell ⟨g, i, none⟩ v) := by
  obtain ⟨ti, h1, h2⟩ := Option.map_eq_some_iff.1 hT
  have h3 : w.cell? ⟨g, i, none⟩ = some old[i] := hg.at (by simp [hlt])
  have hadd : (⟨g, i, none⟩ : Addr).add 0 = ⟨g, i, none⟩ := rfl
  simp only [storeVar, sizeOf, typeInfo, hc]
  simp [Sem.run_bind, h1, h2, storeCells, hadd, run_store P w _ v _ hv, h3, hg.free i]

/-- A cell is read. -/
theorem wpList_get1 {g i : Nat} {v : Value} {cells : Array Value} {t : TypeId} {d : TypeDesc} (hg : Blk w g cells t) (hv : cells[i]? = some v) (hu : P.underlying T = some d) (hd : (match d with | .struct _ | .array _ _ => true | _ => false) = false)
    (hx : a.eval X = .pointer (some ⟨g, i, none⟩))
    (h : wpList P ops Q rest (a.put dst v) w) : wpList P ops Q (⟨dst, .load T X, ty, pos, after, none⟩ :: rest) a w :=
  wpList_ran rfl (by
    have hagg : (isAgg T).run P w = .ok false w := by
      unfold isAgg
      rw [Sem.run_bind, run_underlying hu w]
      cases d <;> simp_all
    simp only [execOp, hx, Instr.loadAt, Instr.sureAddr, loadVar]
    simp [Sem.run_bind, hagg, hg.at hv]) h

/-- A cell is stored. -/
theorem wpList_put1 {g i : Nat} {v : Value} {old : Array Value} {t : TypeId} (hT : (P.info? T).map (·.size) = some 1) (hg : Blk w g old t) (hlt : i < old.size)
    (hx : a.eval X = .pointer (some ⟨g, i, none⟩)) (hy : a.eval Y = v) (hv : v.oneCell' = true) (hc : v.cells = #[v])
    (h : ∀ w', w'.heap.size = w.heap.size → Blk w' g (old.setIfInBounds i v) t → w.grownBy w' (some g) → wpList P ops Q rest (a.put dst undef) w') : wpList P ops Q (⟨dst, .store T X Y, ty, pos, after, none⟩ :: rest) a w :=
  wpList_ranU rfl (by
    subst hy
    simp only [execOp, hx, Instr.storeAt, Instr.sureAddr]
    simp [run_put1 hT hv hc hg hlt]) (h _ (by simp [World.setCell]) (hg.cell_same i v) ⟨rfl, rfl, rfl, by simp [World.setCell], fun k _ hk => heap_setCell_other w _ k v (fun e => hk (by rw [e]))⟩)
end

theorem newF (w : World) : (Instr.alloc 27 true (.tuple #[])).run Try.prog w = .ok (.pointer (some ⟨w.heap.size, 0, none⟩)) (w.alloc (.cells (arrF fun _ => 0) 27)) := by kernel_rfl
theorem zeroF (w : World) : (Instr.build 27 #[]).run Try.prog w = .ok (.agg (arrF fun _ => 0)) w := by kernel_rfl
theorem sizeF : (Try.prog.info? 27).map (·.size) = some 64 := by kernel_rfl
theorem size32 : (Try.prog.info? 25).map (·.size) = some 1 := by kernel_rfl
def G0 : G := ⟨0, 0, fun _ => 0, fun _ => 0, fun _ => 0, 0⟩
theorem newG (w : World) : (Instr.alloc 30 true (.tuple #[])).run Try.prog w = .ok (.pointer (some ⟨w.heap.size, 0, none⟩)) (w.alloc (.cells (arrG G0) 30)) := by kernel_rfl
theorem zeroG (w : World) : (Instr.build 30 #[]).run Try.prog w = .ok (.agg (arrG G0)) w := by kernel_rfl
theorem sizeG : (Try.prog.info? 30).map (·.size) = some 195 := by kernel_rfl

section
variable {ops : Array Oper} {Q : Exit → Act → World → Prop} {rest : List Oper} {a : Act} {w : World} {dst : Option Tmp} {ty : TypeId} {X Y : Operand} {pos : String} {after : Array Edge} {B : Nat} {t : TypeId}

theorem wpList_putF {f0 f : Nat → Nat} (hg : Blk w B (arrF f0) t) (hx : a.eval X = .pointer (some ⟨B, 0, none⟩)) (hy : a.eval Y = .agg (arrF f))
    (h : ∀ w', w'.heap.size = w.heap.size → Blk w' B (arrF f) t → w.grownBy w' (some B) → wpList Try.prog ops Q rest (a.put dst undef) w') : wpList Try.prog ops Q (⟨dst, .store 27 X Y, ty, pos, after, none⟩ :: rest) a w :=
  wpList_put hg (by rw [arrF_size]; exact sizeF) (by rw [arrF_size, arrF_size]) (arrF_one f) hx hy h
theorem wpList_putG {g0 g : G} (hg : Blk w B (arrG g0) t) (hx : a.eval X = .pointer (some ⟨B, 0, none⟩)) (hy : a.eval Y = .agg (arrG g))
    (h : ∀ w', w'.heap.size = w.heap.size → Blk w' B (arrG g) t → w.grownBy w' (some B) → wpList Try.prog ops Q rest (a.put dst undef) w') : wpList Try.prog ops Q (⟨dst, .store 30 X Y, ty, pos, after, none⟩ :: rest) a w :=
  wpList_put hg (by rw [arrG_size]; exact sizeG) (by rw [arrG_size, arrG_size]) (arrG_one g) hx hy h
theorem wpList_getF {f : Nat → Nat} (hg : Blk w B (arrF f) t) (hx : a.eval X = .pointer (some ⟨B, 0, none⟩))
    (h : wpList Try.prog ops Q rest (a.put dst (.agg (arrF f))) w) : wpList Try.prog ops Q (⟨dst, .load 27 X, ty, pos, after, none⟩ :: rest) a w :=
  wpList_get hg Try.underlying27 rfl (by rw [arrF_size]; exact sizeF) hx h
theorem wpList_getG {g : G} (hg : Blk w B (arrG g) t) (hx : a.eval X = .pointer (some ⟨B, 0, none⟩))
    (h : wpList Try.prog ops Q rest (a.put dst (.agg (arrG g))) w) : wpList Try.prog ops Q (⟨dst, .load 30 X, ty, pos, after, none⟩ :: rest) a w :=
  wpList_get hg Try.underlying30 rfl (by rw [arrG_size]; exact sizeG) hx h
theorem wpList_setF {f : Nat → Nat} {k r : Nat} (hg : Blk w B (arrF f) t) (hk : k < 64) (hx : a.eval X = .pointer (some ⟨B, k, none⟩)) (hy : a.eval Y = .float .f32 r)
    (h : ∀ w', w'.heap.size = w.heap.size → Blk w' B (arrF (upd f k r)) t → w.grownBy w' (some B) → wpList Try.prog ops Q rest (a.put dst undef) w') : wpList Try.prog ops Q (⟨dst, .store 25 X Y, ty, pos, after, none⟩ :: rest) a w :=
  wpList_put1 size32 hg (by rw [arrF_size]; exact hk) hx hy rfl rfl (by rw [arrF_set]; exact h)
theorem wpList_setH {g : G} {k r : Nat} (hg : Blk w B (arrG g) t) (hk : k < 64) (hx : a.eval X = .pointer (some ⟨B, 130 + k, none⟩)) (hy : a.eval Y = .float .f32 r)
    (h : ∀ w', w'.heap.size = w.heap.size → Blk w' B (arrG { g with h := upd g.h k r }) t → w.grownBy w' (some B) → wpList Try.prog ops Q rest (a.put dst undef) w') : wpList Try.prog ops Q (⟨dst, .store 25 X Y, ty, pos, after, none⟩ :: rest) a w :=
  wpList_put1 size32 hg (by rw [arrG_size]; omega) hx hy rfl rfl (by rw [arrG_setH g hk]; exact h)
end

section
variable {fn : Func} {a : Act} {w : World} {R : Ending → World → Prop} {p u v : Tmp} {B : Nat} {cs : Array Value} {t T : TypeId}

theorem ret_cell1 (h : fn.results = #[.cell p T]) (hp : a.tmps.getD p undef = .pointer (some ⟨B, 0, none⟩)) (hl : (loadVar T ⟨B, 0, none⟩).run Try.prog w = .ok (.agg cs) w) (hd : a.defers = [])
    (hR : R (.returned (.agg cs)) w) : bodyPost Try.prog fn R .ret a w := by
  refine bodyPost_ret (v := .agg cs) ?_ hd hR
  simp only [results, h]
  simp only [Array.getD_eq_getD_getElem?] at hp
  simp [hp, asAddr, hl]
theorem ret_cell2 (h : fn.results = #[.cell p T, .tmp u]) (hp : a.tmps.getD p undef = .pointer (some ⟨B, 0, none⟩)) (hl : (loadVar T ⟨B, 0, none⟩).run Try.prog w = .ok (.agg cs) w) (hd : a.defers = [])
    (hR : R (.returned (.tuple #[.agg cs, a.tmps.getD u undef])) w) : bodyPost Try.prog fn R .ret a w := by
  refine bodyPost_ret (v := .tuple #[.agg cs, a.tmps.getD u undef]) ?_ hd hR
  simp only [results, h]
  simp only [Array.getD_eq_getD_getElem?] at hp
  simp [hp, asAddr, hl]
theorem ret_cell3 (h : fn.results = #[.cell p T, .tmp u, .tmp v]) (hp : a.tmps.getD p undef = .pointer (some ⟨B, 0, none⟩)) (hl : (loadVar T ⟨B, 0, none⟩).run Try.prog w = .ok (.agg cs) w) (hd : a.defers = [])
    (hR : R (.returned (.tuple #[.agg cs, a.tmps.getD u undef, a.tmps.getD v undef])) w) : bodyPost Try.prog fn R .ret a w := by
  refine bodyPost_ret (v := .tuple #[.agg cs, a.tmps.getD u undef, a.tmps.getD v undef]) ?_ hd hR
  simp only [results, h]
  simp only [Array.getD_eq_getD_getElem?] at hp
  simp [hp, asAddr, hl]

theorem loadF {f : Nat → Nat} (hB : Blk w B (arrF f) t) : (loadVar 27 ⟨B, 0, none⟩).run Try.prog w = .ok (.agg (arrF f)) w := run_loadVar_row w B t _ _ _ _ hB Try.underlying27 rfl (by rw [arrF_size]; exact sizeF)
theorem loadG {g : G} (hB : Blk w B (arrG g) t) : (loadVar 30 ⟨B, 0, none⟩).run Try.prog w = .ok (.agg (arrG g)) w := run_loadVar_row w B t _ _ _ _ hB Try.underlying30 rfl (by rw [arrG_size]; exact sizeG)
end

theorem ret_tmp3 {fn : Func} {a : Act} {w : World} {R : Ending → World → Prop} {u v x : Tmp} (h : fn.results = #[.tmp u, .tmp v, .tmp x]) (hd : a.defers = [])
    (hR : R (.returned (.tuple #[a.tmps.getD u undef, a.tmps.getD v undef, a.tmps.getD x undef])) w) : bodyPost Try.prog fn R .ret a w := by
  refine bodyPost_ret (v := .tuple #[a.tmps.getD u undef, a.tmps.getD v undef, a.tmps.getD x undef]) ?_ hd hR
  simp only [results, h]
  simp


/-- The bits of a float's value. -/
def f32 : Value → Nat
  | .float _ b => b
  | _ => 0

/-- THE WALK's LAW for float arithmetic, with nothing to be found. -/
theorem wpList_ar {P : Program} {ops : Array Oper} {Q : Exit → Act → World → Prop} {rest : List Oper} {a : Act} {w : World} {dst : Option Tmp} {op : BinOp} {t t2 ty : TypeId} {X Y : Operand} {pos : String} {after : Array Edge}
    (ho : arith op = true) (hx : a.eval X = .float .f32 (f32 (a.eval X))) (hy : a.eval Y = .float .f32 (f32 (a.eval Y)))
    (h : ∀ r n, Is r (fop op (fb (f32 (a.eval X))) (fb (f32 (a.eval Y)))) → wpList P ops Q rest (a.put dst (.float .f32 r)) (w.drewN n)) :
    wpList P ops Q (⟨dst, .binOp op t X Y t2, ty, pos, after, none⟩ :: rest) a w := wpList_arith _ _ ho hx hy h

def Gate (p : Prop) : Prop := p
/-- Only at a binary operation. -/
theorem wpList_gate {P : Program} {ops : Array Oper} {Q : Exit → Act → World → Prop} {rest : List Oper} {a : Act} {w : World} {dst : Option Tmp} {op : BinOp} {t t2 ty : TypeId} {X Y : Operand} {pos : String} {after : Array Edge}
    (h : Gate (wpList P ops Q (⟨dst, .binOp op t X Y t2, ty, pos, after, none⟩ :: rest) a w)) : wpList P ops Q (⟨dst, .binOp op t X Y t2, ty, pos, after, none⟩ :: rest) a w := h

/-- Only at a store. -/
theorem wpList_gateS {P : Program} {ops : Array Oper} {Q : Exit → Act → World → Prop} {rest : List Oper} {a : Act} {w : World} {dst : Option Tmp} {ty T : TypeId} {X Y : Operand} {pos : String} {after : Array Edge}
    (h : Gate (wpList P ops Q (⟨dst, .store T X Y, ty, pos, after, none⟩ :: rest) a w)) : wpList P ops Q (⟨dst, .store T X Y, ty, pos, after, none⟩ :: rest) a w := h

end Go.Proofs.Ytfcphfdfpjmgiaa

namespace Go.Proofs.Ytfcphfdfpjmgiaa
open Go.RowKit

/-- A float is handed back; the world is as it was, but for draws and new memory. -/
def RetF (x : F) (w : World) (e : Ending) (w' : World) : Prop := ∃ r, e = .returned (.float .f32 r) ∧ Is r x ∧ Below w.heap.size w w'



theorem order_gt (x y : Nat) : (FloatKind.f32.format.order x y == some .gt) = fgt (fb x) (fb y) := by rw [order32]; rfl
theorem order_lt (x y : Nat) : (FloatKind.f32.format.order x y == some .lt) = flt (fb x) (fb y) := by rw [order32]; rfl
theorem order_eq (x y : Nat) : (FloatKind.f32.format.order x y == some .eq) = feq (fb x) (fb y) := by rw [order32]; rfl

def joint (a b : F) : F := if fgt a (some 0) && fgt b (some 0) then fdiv (fmul (some 1073741824) (fmul a b)) (fadd a b) else some 0

theorem fb0 : fb 0 = some 0 := by decide
theorem fb2 : fb 1073741824 = some 1073741824 := by decide

set_option maxHeartbeats 400000 in
theorem JointOf_any (a b : Nat) (w : World) :
    Calls Try.prog 69 #[.float .f32 a, .float .f32 b] w (RetF (joint (fb a) (fb b)) w) := by
  have hgt := order_gt
  go_enter Try.func69, Try.ntmps69
  go_wp2_with (refine wpList_arith _ _ rfl rfl rfl ?_; intro r n hr)
  all_goals
    go_ret
    refine ⟨_, rfl, ?_, by repeat (first | exact Below.refl _ _ | refine below_drawn ?_ _)⟩
    simp only [Is, fop, fb0, fb2, Bool.not_eq_true', Bool.not_eq_false'] at *
    simp [joint, *]

/-- A callee's word: it hands back this number. -/
def SF (x : F) (_ : FuncId) (_ : Array Value) (v : Value) : Prop := ∃ r, v = .float .f32 r ∧ Is r x

/-- A callee's word: it hands back this value. -/
def SV (x : Value) (_ : FuncId) (_ : Array Value) (v : Value) : Prop := v = x

def flow (m : M) (k s : Nat) : F :=
  if beside m.wide m.high k s < 0 then some 0
  else fmul (joint (m.c k) (m.c (beside m.wide m.high k s).toNat)) (fsub (m.h k) (m.h (beside m.wide m.high k s).toNat))

theorem beside_lt (W H : Int) (k s : Nat) (hk : k < 64) (hW : W ≤ 8) (hH : H ≤ 8) : beside W H k s < 64 ∧ -1 ≤ beside W H k s := by
  unfold beside besideXY
  simp only []
  split <;> split <;> (first | omega | (split <;> (first | omega | (split <;> omega))))

set_option maxRecDepth 100000 in
set_option maxHeartbeats 400000 in
theorem flow_any (b o k s : Nat) (g : G) (w : World) (hk : k < 64) (hs : s < 4) (hr : g.Rng) (hW : g.wide ≤ 8) (hH : g.high ≤ 8) (hg : GAt w b o g) :
    Calls Try.prog 148 #[.pointer (some ⟨b, o, none⟩), .int .i64 k, .int .i64 s] w (RetF (flow g.m k s) w) := by
  have hlt := beside_lt g.wide g.high k s hk hW hH
  by_cases hn : beside g.wide g.high k s < 0
  · go_enter Try.func148, Try.ntmps148
    go_wp2_with (go_at_call 164; refine (beside_any b o k s g _ hk hs hr hg).mono ?_; rintro e w' ⟨rfl, rfl⟩)
    all_goals
      go_ret
      exact ⟨0, rfl, by simp [flow, G.m, hn, Is, fb0], Below.refl _ _⟩
  · obtain ⟨m, hm⟩ : ∃ m : Nat, beside g.wide g.high k s = m := ⟨(beside g.wide g.high k s).toNat, by omega⟩
    have hml : m < 64 := by omega
    have HM := Lib.hid hm
    have k1 : (k : Int) < 64 := by omega
    have m1 : (m : Int) < 64 := by omega
    have c1 := fun x => ext_cell w x (hg.c hk)
    have c2 := fun x => ext_cell w x (hg.c hml)
    have c3 := fun x => ext_cell w x (hg.h hk)
    have c4 := fun x => ext_cell w x (hg.h hml)
    have cb := (beside_any b o k s g w hk hs hr hg)
    rw [hm] at cb
    have CB := Lib.hid cb
    clear cb hn hlt hm hg hr hW hH hs
    go_enter Try.func148, Try.ntmps148
    go_wp2_with (go_at_call 164; refine CB.out.mono ?_; rintro e w' ⟨rfl, rfl⟩)
    refine wp_soft (SF (joint (fb (g.c k)) (fb (g.c m)))) (by kernel_rfl) (by kernel_rfl) ?_
    repeat (first | (refine soft_arith (fun _ n h => h.drewN n) _ _ rfl rfl rfl ?_; intro r hr) | (refine soft_step (fun K hK => ?_); go_simp; (try go_bits); refine hK _ ?_; clear hK K) | (refine soft_step (fun K hK => ?_); go_simp; refine ⟨_, _, ⟨rfl, rfl⟩, fun x => (JointOf_any _ _ _).mono ?_, ?_⟩; (rintro e w1 ⟨r, he, hr, hb⟩; exact ⟨_, he, ⟨r, rfl, hr⟩, hb⟩); rintro v ⟨r, rfl, hr⟩; refine hK _ ?_; clear hK K))

    refine soft_nil ?_
    rintro w1 hw1
    have HB := Lib.hid hw1.below
    clear hw1
    go_wp2_with fail
    go_ret
    refine ⟨_, rfl, ?_, HB.out⟩
    simp only [Is, fop] at *
    have hnn : ¬ ((m : Int) < 0) := by omega
    have hk2 := fm_of (f := g.c) hk
    have hk3 := fm_of (f := g.h) hk
    have hk4 := fm_of (f := g.c) hml
    have hk5 := fm_of (f := g.h) hml
    simp [flow, G.m, HM.out, *]
end Go.Proofs.Ytfcphfdfpjmgiaa

namespace Go.Proofs.Ytfcphfdfpjmgiaa
open Go.RowKit

theorem GAt.below {w w' : World} {b o : Nat} {g : G} (h : GAt w b o g) (hb : Below w.heap.size w w') : GAt w' b o g := fun i hi => by
  have h1 := h i hi
  have h2 : b < w.heap.size := block_lt_of_cell h1
  rw [← h1]; exact hb.cell (p := ⟨b, o + i, none⟩) h2

theorem cell_below {w w' : World} {b o : Nat} {v : Value} (h : Below w.heap.size w w') (hc : w.cell? ⟨b, o, none⟩ = some v) : w'.cell? ⟨b, o, none⟩ = some v := by
  rw [← hc]; exact h.cell (p := ⟨b, o, none⟩) (block_lt_of_cell hc)

theorem Is.op {r a b : Nat} {op : BinOp} {A B : F} (h : Is r (fop op (fb a) (fb b))) (ha : Is a A) (hb : Is b B) : Is r (fop op A B) := by
  rw [ha.out, hb.out] at h; exact h

def balTo (m : M) (k : Nat) : Nat → F
  | 0 => m.g k
  | s + 1 => if 0 ≤ beside m.wide m.high k s then fsub (balTo m k s) (flow m k s) else balTo m k s

theorem balTo_yes {g : M} {k s : Nat} (h : 0 ≤ beside g.wide g.high k s) : balTo g k (s + 1) = fsub (balTo g k s) (flow g k s) := if_pos h
theorem balTo_no {g : M} {k s : Nat} (h : ¬ 0 ≤ beside g.wide g.high k s) : balTo g k (s + 1) = balTo g k s := if_neg h

def BalRel (g : G) (k : Nat) (w : World) (v5 v13 : Value) (wr : World) : Prop := ∃ s r : Nat, s ≤ 4 ∧ v13 = .int .i64 s ∧ v5 = .float .f32 r ∧ Is r (balTo g.m k s) ∧ Below w.heap.size w wr

set_option maxRecDepth 100000 in
set_option maxHeartbeats 400000 in
theorem balance_any (b o k : Nat) (g : G) (w : World) (hk : k < 64) (hr : g.Rng) (hW : g.wide ≤ 8) (hH : g.high ≤ 8) (hg : GAt w b o g) :
    Calls Try.prog 116 #[.pointer (some ⟨b, o, none⟩), .int .i64 k] w (RetF (balTo g.m k 4) w) := by
  have c1 := hg.g hk
  have k1 : (k : Int) < 64 := by omega
  go_enter Try.func116, Try.ntmps116
  go_wp2_with fail
  go_loopw [5, 13] (fun v5 v13 wr => BalRel g k w v5 v13 wr) (fun _ v13 _ => 4 - (intOf v13).toNat)
  case atStart => exact ⟨0, g.g k, by omega, rfl, rfl, (fm_of hk).symm, Below.refl _ _⟩
  case round =>
    obtain ⟨s, r, hs, rfl, rfl, hr, hB⟩ := hrel
    have HG := Lib.hid (hg.below hB)
    have HB := Lib.hid hB
    clear hB hg
    by_cases hlt : s < 4
    · by_cases hb : 0 ≤ beside g.wide g.high k s
      · go_wp2_with (first | (go_at_call 164; refine (beside_any b o k s g _ hk hlt (by assumption) HG.out).mono ?_; rintro e w' ⟨rfl, rfl⟩) | (go_at_call 148; refine (flow_any b o k s g _ hk hlt (by assumption) (by assumption) (by assumption) HG.out).mono ?_; rintro e w1 ⟨r1, rfl, hr1, hb1⟩; have HB1 := Lib.hid hb1; clear hb1) | (refine wpList_arith _ _ rfl rfl rfl ?_; intro r2 n2 hr2))
        go_roundw
        case rel => exact ⟨s + 1, r2, by omega, by go_num, rfl, by rw [balTo_yes (g := g.m) hb]; exact hr2.op hr hr1, below_drawn (HB.out.trans (HB1.out.mono HB.out.size)) _⟩
        case measure => simp [intOf]; omega
      · go_wp2_with (first | (go_at_call 164; refine (beside_any b o k s g _ hk hlt (by assumption) HG.out).mono ?_; rintro e w' ⟨rfl, rfl⟩))
        go_roundw
        case rel => exact ⟨s + 1, r, by omega, by go_num, rfl, by rw [balTo_no (g := g.m) (by show ¬ 0 ≤ beside g.wide g.high k s; omega)]; exact hr, HB.out⟩
        case measure => simp [intOf]; omega
    · go_wp2
      obtain rfl : s = 4 := by omega
      go_ret
      exact ⟨r, rfl, hr, HB.out⟩
end Go.Proofs.Ytfcphfdfpjmgiaa

namespace Go.Proofs.Ytfcphfdfpjmgiaa
open Go.RowKit

def cellsTo (W H : Int) (k : Nat) : List Nat := (List.range k).filter fun c => hasB W H c
def ints (l : List Nat) : List Value := l.map fun c : Nat => .int .i64 c

theorem cellsTo_yes {W H : Int} {k : Nat} (h : hasB W H k = true) : cellsTo W H (k + 1) = cellsTo W H k ++ [k] := by
  unfold cellsTo; rw [List.range_succ, List.filter_append]; simp [h]
theorem cellsTo_no {W H : Int} {k : Nat} (h : hasB W H k = false) : cellsTo W H (k + 1) = cellsTo W H k := by
  unfold cellsTo; rw [List.range_succ, List.filter_append]; simp [h]
theorem cellsTo_length (W H : Int) (k : Nat) : (cellsTo W H k).length ≤ k := by
  unfold cellsTo; exact Nat.le_trans (List.length_filter_le _ _) (by simp)
theorem cellsTo_lt {W H : Int} {k c : Nat} (h : c ∈ cellsTo W H k) : c < k := by
  unfold cellsTo at h; simpa using (List.mem_filter.1 h).1

/-- A list of whole numbers in new memory is handed back. -/
def RetL (l : List Nat) (w : World) (e : Ending) (w' : World) : Prop := ∃ v, e = .returned v ∧ w'.ownsRow w.heap.size 3 1 v l.length (ints l) ∧ Below w.heap.size w w'

def CellsRel (W H : Int) (w : World) (v3 v6 : Value) (wr : World) : Prop := ∃ k : Nat, k ≤ 64 ∧ v6 = .int .i64 k ∧ wr.ownsRow w.heap.size 3 1 v3 (cellsTo W H k).length (ints (cellsTo W H k)) ∧ Below w.heap.size w wr

theorem Try.info3 : (Try.prog.info? 3).map (fun i => (i.zero, i.size, i.bytes)) = some (some (.int .i64 0), 1, 8) := by kernel_rfl

theorem ints_snoc (l : List Nat) (k : Nat) : ints (l ++ [k]) = ints l ++ [.int .i64 k] := by simp [ints]

set_option maxRecDepth 100000 in
set_option maxHeartbeats 400000 in
theorem cells_any (b o : Nat) (g : G) (w : World) (hr : g.Rng) (hg : GAt w b o g) :
    Calls Try.prog 102 #[.pointer (some ⟨b, o, none⟩)] w (RetL (cellsTo g.wide g.high 64) w) := by
  obtain ⟨i0, hi, hz0, hz1, hz2⟩ := info_parts Try.info3
  go_enter Try.func102, Try.ntmps102
  go_wp2_with fail
  go_loopw [3, 6] (fun v3 v6 wr => CellsRel g.wide g.high w v3 v6 wr) (fun _ v6 _ => 64 - (intOf v6).toNat)
  case atStart => exact ⟨0, by omega, rfl, World.ownsRow_lit w #[] 0 (Nat.le_refl _) (by simp [maxLen]) rfl, (Below.refl _ _).alloc (Nat.le_refl _) _⟩
  case round =>
    obtain ⟨k, hk, rfl, hown, hB⟩ := hrel
    have HG := Lib.hid (hg.below hB)
    have HB := Lib.hid hB
    have HO := Lib.hid hown
    clear hB hg hown
    by_cases hlt : k < 64
    · cases hh : hasB g.wide g.high k
      · have HH := Lib.hid hh
        clear hh
        go_wp2_with (first | (go_at_call 178; refine (has_any b o k g _ hlt hr HG.out).mono ?_; rw [HH.out]; rintro e w' ⟨rfl, rfl⟩))
        go_roundw
        case rel => exact ⟨k + 1, by omega, by go_num, by rw [cellsTo_no HH.out]; exact HO.out, HB.out⟩
        case measure => simp [intOf]; omega
      · have HH := Lib.hid hh
        have hlen := cellsTo_length g.wide g.high k
        have hbs := HB.out.size
        have hown := HO.out
        clear hh
        go_wp2_with (first | (go_at_call 178; refine (has_any b o k g _ hlt hr HG.out).mono ?_; rw [HH.out]; rintro e w' ⟨rfl, rfl⟩) | (at_builtin; refine wpList_append_own _ rfl _ _ 108 rfl w.heap.size 3 i0 (.int .i64 0) 1 8 Try.underlying108 hi hz0 hz1 hz2 rfl (by decide) _ _ _ rfl (hown.alloc _) ⟨wr.heap.size, 0, none⟩ 1 1 [.int .i64 k] rfl rfl (cell_one_new _ _ _) (by simp [Value.oneCell']) (by unfold maxLen; omega) (by omega) (by simp; omega) ?_))
        intro v' w1 hown1 hgrow _
        have HO1 := Lib.hid hown1
        have HB1 := Lib.hid hgrow
        clear hown1 hgrow hown
        go_wp2
        go_roundw
        case rel => exact ⟨k + 1, by omega, by go_num, by rw [cellsTo_yes HH.out, ints_snoc, List.length_append]; exact HO1.out, (HB.out.alloc (by omega) _).grown HB1.out (by simp; omega) (fun k hk => (HO.out.lt k hk).1)⟩
        case measure => simp [intOf]; omega
    · go_wp2
      obtain rfl : k = 64 := by omega
      go_ret
      exact ⟨_, rfl, HO.out, HB.out⟩
end Go.Proofs.Ytfcphfdfpjmgiaa

namespace Go.Proofs.Ytfcphfdfpjmgiaa
open Go.RowKit

def fin (x : F) : Bool := feq (fsub x x) (some 0)

/-- A bool is handed back; the world is as it was, but for draws and new memory. -/
def RetB (x : Bool) (w : World) (e : Ending) (w' : World) : Prop := e = .returned (.bool x) ∧ Below w.heap.size w w'

set_option maxHeartbeats 400000 in
theorem finite_any (a : Nat) (x : F) (w : World) (ha : Is a x) :
    Calls Try.prog 108 #[.float .f32 a] w (RetB (fin x) w) := by
  have heq := order_eq
  have HA := Lib.hid ha
  clear ha
  go_enter Try.func108, Try.ntmps108
  go_wp2_with (refine wpList_arith _ _ rfl rfl rfl ?_; intro r n hr)
  go_ret
  refine ⟨ret_bool ?_, below_drawn (Below.refl _ _) _⟩
  have := hr.out
  rw [this, fop, HA.out.out, fb0]
  rfl

/-- A list of whole numbers in memory. -/
theorem list_form {w : World} {base : Nat} {v : Value} {l : List Nat} (h : w.ownsRow base 3 1 v l.length (ints l)) :
    ∃ a cap, v = .slice a l.length cap ∧ ∀ (j c : Nat), l[j]? = some c → ∃ gq, a = some ⟨gq, 0, none⟩ ∧ base ≤ gq ∧ gq < w.heap.size ∧ w.cell? ⟨gq, j, none⟩ = some (.int .i64 c) := by
  obtain ⟨h1, h2 | ⟨g, cap, cur, rfl, hb, hg, _⟩⟩ := h
  · obtain ⟨rfl, h0⟩ := h2
    refine ⟨none, 0, by rw [h0], fun j c hc => ?_⟩
    have : l = [] := List.eq_nil_of_length_eq_zero h0
    subst this; cases hc
  · refine ⟨_, cap, rfl, fun j c hc => ⟨g, rfl, hb, (Array.getElem?_eq_some_iff.1 hg).1, ?_⟩⟩
    have hj : j < l.length := (List.getElem?_eq_some_iff.1 hc).1
    have := World.ownsRow.cellAt (w := w) (base := base) (e := 3) (size := 1) (g := g) (n := l.length) (cap := cap) (xs := ints l) ⟨h1, .inr ⟨g, cap, cur, rfl, hb, hg, ‹_›⟩⟩ j (by omega)
    rw [this]
    simp [ints, hc]

def balF (m : M) (l : List Nat) (i : Nat) : F := if i < 64 then (if i ∈ l then balTo m i 4 else some 0) else none
def balOk (m : M) (l : List Nat) : Bool := l.all fun c => fin (balTo m c 4)
def cellsM (m : M) : List Nat := cellsTo m.wide m.high 64

def RetBals (m : M) (w : World) (e : Ending) (w' : World) : Prop := ∃ f, e = .returned (.tuple #[.agg (arrF f), .bool (balOk m (cellsM m))]) ∧ fm f = balF m (cellsM m) ∧ Below w.heap.size w w'

def BalsRel (m : M) (w1 : World) (B : Nat) (v5 v12 : Value) (wr : World) : Prop :=
  ∃ (j : Nat) (f : Nat → Nat) (ok : Bool), j ≤ (cellsM m).length ∧ v12 = .int .i64 j ∧ v5 = .bool ok ∧ ok = balOk m ((cellsM m).take j) ∧ fm f = balF m ((cellsM m).take j) ∧ Blk wr B (arrF f) 27 ∧ w1.grownBy wr (some B)

theorem take_more {l : List Nat} {j c : Nat} (h : l[j]? = some c) : l.take (j + 1) = l.take j ++ [c] := by
  rw [List.take_add_one, h]; rfl
theorem balF_more {m : M} {l : List Nat} {j c : Nat} (h : l[j]? = some c) (hc : c < 64) : balF m (l.take (j + 1)) = upd (balF m (l.take j)) c (balTo m c 4) := by
  rw [take_more h]
  funext i
  unfold balF upd
  by_cases e : i = c
  · subst e; simp [hc]
  · simp [e]
theorem balOk_more {m : M} {l : List Nat} {j c : Nat} (h : l[j]? = some c) : balOk m (l.take (j + 1)) = (balOk m (l.take j) && fin (balTo m c 4)) := by
  rw [take_more h]; simp [balOk, List.all_append]
theorem balF_nil (m : M) : fm (fun _ => 0) = balF m [] := by
  funext i
  unfold fm balF
  simp [fb0]

theorem GAt.grown {w w' : World} {b o r : Nat} {g : G} (h : GAt w b o g) (hg : w.grownBy w' (some r)) (hne : b ≠ r) : GAt w' b o g := fun i hi => cell_grown (h i hi) hg hne

set_option maxRecDepth 100000 in
set_option maxHeartbeats 800000 in
theorem balances_any (b o : Nat) (g : G) (w : World) (hr : g.Rng) (hW : g.wide ≤ 8) (hH : g.high ≤ 8) (hg : GAt w b o g) :
    Calls Try.prog 162 #[.pointer (some ⟨b, o, none⟩)] w (RetBals g.m w) := by
  have hbl : b < w.heap.size := block_lt_of_cell (hg 0 (by omega))
  go_enter Try.func162, Try.ntmps162
  go_wp2_with (first | (with_reducible refine wpList_new newF ?_) | (with_reducible refine wpList_zero (zeroF _) ?_) | (with_reducible refine wpList_new newG ?_) | (with_reducible refine wpList_zero (zeroG _) ?_))
  intro A wA hA1 hA2 hA3 hA4
  go_wp2_with (first | (with_reducible refine wpList_new newF ?_) | (with_reducible refine wpList_zero (zeroF _) ?_) | (with_reducible refine wpList_new newG ?_) | (with_reducible refine wpList_zero (zeroG _) ?_))
  intro B wB hB1 hB2 hB3 hB4
  go_wp2_with (refine wpList_putF hB3 rfl rfl ?_)
  intro wC hC1 hC2 hC3
  have hBw : w.heap.size < B := by have := hA4.size; omega
  have hgC := ((hg.below hA4).below hB4).grown hC3 (by omega)
  go_wp2_with fail
  refine (cells_any b o g wC hr hgC).mono ?_
  rintro e w1 ⟨v, rfl, hown, hb1⟩
  obtain ⟨aL, cap, rfl, hL⟩ := list_form hown
  have hg1 := Lib.hid (hgC.below hb1)
  have hBl1 := Lib.hid (hC2.later hb1)
  have hbelow : Below w.heap.size w w1 := ((below_grown (hA4.trans (hB4.mono hA4.size)) hC3 (Nat.le_trans hA4.size hB4.size) (by omega))).trans (hb1.mono (by omega))
  have HBW := Lib.hid hbelow
  have HA3 := Lib.hid (((hA3.later hB4).grown hC3 (by omega)).later hb1)
  have HL := Lib.hid hL
  have hsz := hC1
  have HA1 : A < B := by omega
  clear hL hown hgC hg hA3 hA4 hB3 hB4 hC2 hC3 hb1 hbelow
  go_wp2_with fail
  go_loopw [5, 12] (fun v5 v12 wr => BalsRel g.m w1 B v5 v12 wr) (fun _ v12 _ => (cellsM g.m).length - (intOf v12).toNat)
  case atStart => exact ⟨0, _, true, by omega, rfl, rfl, rfl, balF_nil _, hBl1.out, grown_refl _ _⟩
  case round =>
    obtain ⟨j, f, ok, hj, rfl, rfl, hok, hf, hB, hgr⟩ := hrel
    have HOK := Lib.hid hok
    have HF := Lib.hid hf
    have HG := Lib.hid (hg1.out.grown hgr (by omega))
    have HB := Lib.hid hB
    have HGR := Lib.hid hgr
    clear hok hf hB hgr
    by_cases hlt : j < (cellsM g.m).length
    · obtain ⟨c, hc⟩ : ∃ c, (cellsM g.m)[j]? = some c := ⟨_, List.getElem?_eq_getElem hlt⟩
      have hc64 : c < 64 := cellsTo_lt (List.mem_of_getElem? hc)
      have hj64 : j < 64 := Nat.lt_of_lt_of_le hlt (cellsTo_length _ _ _)
      obtain ⟨gq, rfl, hq1, hq2, hq3⟩ := HL.out j c hc
      have hcell := cell_grown hq3 HGR.out (by omega)
      have HC := Lib.hid hc
      have hc64' : (c : Int) < 64 := by omega
      have hlt' : (j : Int) < ((cellsTo g.wide g.high 64).length : Int) := by have : j < (cellsTo g.wide g.high 64).length := hlt; omega
      clear hq3 hc
      go_wp2_with fail
      refine (balance_any b o c g wr hc64 hr hW hH HG.out).mono ?_
      rintro e w2 ⟨r, rfl, hrr, hb2⟩
      have HB2 := HB.out.later hb2
      have HRR := Lib.hid hrr
      clear hrr
      go_wp2_with (refine wpList_setF HB2 hc64 rfl rfl ?_)
      intro w3 h31 h32 h33
      have hc3 : w3.cell? ⟨B, c, none⟩ = some (.float .f32 r) := h32.at (by rw [arrF_get _ hc64]; simp [upd])
      have H32 := Lib.hid h32
      have HG3 := Lib.hid ((grown_trans (grown_trans HGR.out (grown_below hb2)) h33 : w1.grownBy w3 (some B)))
      have HB3 := Lib.hid hb2
      clear h32 hb2 HB2 h33 hcell
      have hfin : fm (upd f c r) = balF g.m ((cellsM g.m).take (j + 1)) := by rw [balF_more HC.out hc64, fm_upd hc64, HF.out, HRR.out.out]
      have HFIN := Lib.hid hfin
      have hoks := balOk_more (m := g.m) HC.out
      rw [← HOK.out] at hoks
      have HOKS := Lib.hid hoks
      clear hfin hoks
      cases ok
      · go_wp2_with fail
        go_roundw
        case rel => exact ⟨j + 1, upd f c r, false, by omega, by go_num, rfl, by rw [HOKS.out]; rfl, HFIN.out, H32.out, HG3.out⟩
        case measure => simp [intOf]; omega
      · go_wp2_with fail
        refine (finite_any r _ w3 HRR.out).mono ?_
        rintro e w4 ⟨rfl, hb4⟩
        have HB4 := Lib.hid hb4
        clear hb4
        go_wp2_with fail
        go_roundw
        case rel => exact ⟨j + 1, upd f c r, _, by omega, by go_num, rfl, by rw [HOKS.out]; rfl, HFIN.out, H32.out.later HB4.out, grown_trans HG3.out (grown_below HB4.out)⟩
        case measure => simp [intOf]; omega
    · have hjn : j = (cellsM g.m).length := by omega
      have hlt' : ¬ (j : Int) < ((cellsTo g.wide g.high 64).length : Int) := by have : ¬ j < (cellsTo g.wide g.high 64).length := hlt; omega
      have HJ := Lib.hid hjn
      clear hjn
      have hA := HA3.out.grown HGR.out (by omega)
      go_wp2_with (first | ((with_reducible refine wpList_getF HB.out ?_ ?_); rfl) | ((with_reducible refine wpList_putF (f := f) hA ?_ ?_ ?_); rfl; rfl))
      intro w3 h31 h32 h33
      go_wp2_with fail
      refine ret_cell2 rfl rfl (loadF h32) rfl ⟨f, ?_, ?_, ?_⟩
      · rw [List.take_of_length_le (Nat.le_of_eq HJ.out.symm)] at HOK
        rw [← HOK.out]; rfl
      · rw [HF.out, List.take_of_length_le (Nat.le_of_eq HJ.out.symm)]
      · exact below_grown (below_grown HBW.out HGR.out HBW.out.size (by omega)) h33 (by have := HBW.out.size; have := HGR.out.size; omega) (by omega)
end Go.Proofs.Ytfcphfdfpjmgiaa

namespace Go.Proofs.Ytfcphfdfpjmgiaa
open Go.RowKit

def plain (x : F) : Bool := fge x (some 3380609024) && fle x (some 1233125376)
def amount (x : F) : Bool := plain x && fge x (some 0)

theorem fbLow : fb 3380609024 = some 3380609024 := by decide
theorem fbHigh : fb 1233125376 = some 1233125376 := by decide

set_option maxHeartbeats 400000 in
theorem in_any (n lo hi : Int) (w : World) : Calls Try.prog 103 #[.int .i64 n, .int .i64 lo, .int .i64 hi] w fun e w' => e = .returned (.bool (decide (lo ≤ n) && decide (n ≤ hi))) ∧ w = w' := by
  go_enter Try.func103, Try.ntmps103
  go_wp2_with fail
  all_goals
    go_ret
    refine ⟨ret_bool ?_, rfl⟩
    simp
    try omega
theorem in_yes (n lo hi : Int) (w : World) (h1 : lo ≤ n) (h2 : n ≤ hi) : Calls Try.prog 103 #[.int .i64 n, .int .i64 lo, .int .i64 hi] w fun e w' => e = .returned (.bool true) ∧ w = w' :=
  (in_any n lo hi w).mono fun e w' ⟨he, hw⟩ => ⟨by rw [he, decide_eq_true h1, decide_eq_true h2]; rfl, hw⟩
theorem in_no (n lo hi : Int) (w : World) (h : ¬ (lo ≤ n ∧ n ≤ hi)) : Calls Try.prog 103 #[.int .i64 n, .int .i64 lo, .int .i64 hi] w fun e w' => e = .returned (.bool false) ∧ w = w' :=
  (in_any n lo hi w).mono fun e w' ⟨he, hw⟩ => ⟨by rw [he]; refine ret_bool ?_; simp; omega, hw⟩

set_option maxHeartbeats 400000 in
theorem l00In_any (n lo hi : Int) (w : World) : Calls Try.prog 96 #[.int .i64 n, .int .i64 lo, .int .i64 hi] w fun e w' => e = .returned (.bool (decide (lo ≤ n) && decide (n ≤ hi))) ∧ w = w' := by
  go_enter Try.func96, Try.ntmps96
  go_wp2_with fail
  all_goals
    go_ret
    refine ⟨ret_bool ?_, rfl⟩
    simp
    try omega
theorem l00In_yes (n lo hi : Int) (w : World) (h1 : lo ≤ n) (h2 : n ≤ hi) : Calls Try.prog 96 #[.int .i64 n, .int .i64 lo, .int .i64 hi] w fun e w' => e = .returned (.bool true) ∧ w = w' :=
  (l00In_any n lo hi w).mono fun e w' ⟨he, hw⟩ => ⟨by rw [he, decide_eq_true h1, decide_eq_true h2]; rfl, hw⟩
theorem l00In_no (n lo hi : Int) (w : World) (h : ¬ (lo ≤ n ∧ n ≤ hi)) : Calls Try.prog 96 #[.int .i64 n, .int .i64 lo, .int .i64 hi] w fun e w' => e = .returned (.bool false) ∧ w = w' :=
  (l00In_any n lo hi w).mono fun e w' ⟨he, hw⟩ => ⟨by rw [he]; refine ret_bool ?_; simp; omega, hw⟩

set_option maxHeartbeats 400000 in
theorem IsPlain_any (a : Nat) (w : World) : Calls Try.prog 106 #[.float .f32 a] w (RetB (plain (fb a)) w) := by
  have hgt := order_gt
  have hlt := order_lt
  have heq := order_eq
  go_enter Try.func106, Try.ntmps106
  go_wp2_with fail
  all_goals
    go_ret
    refine ⟨ret_bool ?_, Below.refl _ _⟩
    simp only [fbLow, fbHigh] at *
    simp [plain, fge, fle, *]

set_option maxHeartbeats 400000 in
theorem l01Plain_any (a : Nat) (w : World) : Calls Try.prog 118 #[.float .f32 a] w (RetB (plain (fb a)) w) := by
  have hgt := order_gt
  have hlt := order_lt
  have heq := order_eq
  go_enter Try.func118, Try.ntmps118
  go_wp2_with fail
  all_goals
    go_ret
    refine ⟨ret_bool ?_, Below.refl _ _⟩
    simp only [fbLow, fbHigh] at *
    simp [plain, fge, fle, *]

set_option maxHeartbeats 400000 in
theorem isAmount_any (a : Nat) (w : World) : Calls Try.prog 105 #[.float .f32 a] w (RetB (amount (fb a)) w) := by
  have hgt := order_gt
  have heq := order_eq
  cases hp : plain (fb a)
  · have HP := Lib.hid hp
    clear hp
    go_enter Try.func105, Try.ntmps105
    go_wp2_with (go_at_call 106; refine (IsPlain_any a _).mono ?_; rw [HP.out]; rintro e w1 ⟨rfl, hb1⟩)
    go_ret
    exact ⟨ret_bool (by simp [amount, HP.out]), by assumption⟩
  · have HP := Lib.hid hp
    clear hp
    go_enter Try.func105, Try.ntmps105
    go_wp2_with (go_at_call 106; refine (IsPlain_any a _).mono ?_; rw [HP.out]; rintro e w1 ⟨rfl, hb1⟩)
    go_ret
    refine ⟨ret_bool ?_, by assumption⟩
    simp only [fb0]
    simp [amount, HP.out, fge]

set_option maxHeartbeats 400000 in
theorem l01Is_any (b o k : Nat) (g : G) (w : World) (hk : k < 64) (hr : g.Rng) (hg : GAt w b o g) :
    Calls Try.prog 111 #[.pointer (some ⟨b, o, none⟩), .int .i64 k] w fun e w' => e = .returned (.bool (hasB g.wide g.high k)) ∧ w = w' := by
  have h0 := hg.wide
  have h1 := hg.high
  obtain ⟨⟨r0, r1⟩, ⟨r2, r3⟩⟩ := hr
  clear hg
  unfold hasB
  go_enter Try.func111, Try.ntmps111
  go_wp2_with (go_at_call 96; refine (l00In_yes _ _ _ _ (by omega) (by omega)).mono ?_; rintro e w' ⟨rfl, rfl⟩)
  all_goals
    go_ret
    exact ⟨ret_bool (by simp; omega), rfl⟩

/-- A field lies at an address. -/
def FAt (w : World) (b o : Nat) (f : Nat → Nat) : Prop := ∀ i, i < 64 → w.cell? ⟨b, o + i, none⟩ = some (.float .f32 (f i))
theorem FAt.below {w w' : World} {b o : Nat} {f : Nat → Nat} (h : FAt w b o f) (hb : Below w.heap.size w w') : FAt w' b o f := fun i hi => by
  have h1 := h i hi
  have h2 : b < w.heap.size := block_lt_of_cell h1
  rw [← h1]; exact hb.cell (p := ⟨b, o + i, none⟩) h2
theorem GAt.fc {w : World} {b o : Nat} {g : G} (h : GAt w b o g) : FAt w b (o + 2) g.c := fun _ hi => h.c hi
theorem GAt.fg {w : World} {b o : Nat} {g : G} (h : GAt w b o g) : FAt w b (o + 66) g.g := fun _ hi => h.g hi
theorem GAt.fh {w : World} {b o : Nat} {g : G} (h : GAt w b o g) : FAt w b (o + 130) g.h := fun _ hi => h.h hi

/-- The first cells of a field are right: those of the ground by a test, the others 0. -/
def fieldTo (W H : Int) (right : F → Bool) (f : Nat → F) (k : Nat) : Bool := (List.range k).all fun i => if hasB W H i then right (f i) else feq (f i) (some 0)
theorem fieldTo_more {W H : Int} {right : F → Bool} {f : Nat → F} {k : Nat} : fieldTo W H right f (k + 1) = (fieldTo W H right f k && (if hasB W H k then right (f k) else feq (f k) (some 0))) := by
  unfold fieldTo; rw [List.range_succ, List.all_append]; simp
theorem fieldTo_bad {W H : Int} {right : F → Bool} {f : Nat → F} {k n : Nat} (hk : k < n) (h : (if hasB W H k then right (f k) else feq (f k) (some 0)) = false) : fieldTo W H right f n = false := by
  unfold fieldTo; rw [List.all_eq_false]; exact ⟨k, List.mem_range.2 hk, by rw [h]; simp⟩

def FieldRel (W H : Int) (right : F → Bool) (f : Nat → F) (w : World) (v : Value) (wr : World) : Prop := ∃ k : Nat, k ≤ 64 ∧ v = .int .i64 k ∧ fieldTo W H right f k = true ∧ Below w.heap.size w wr

theorem order_ne (x y : Nat) : (FloatKind.f32.format.order x y != some .eq) = !feq (fb x) (fb y) := by rw [order32]; rfl

set_option maxRecDepth 100000 in
set_option maxHeartbeats 800000 in
theorem fieldOk_amount (b o bf of : Nat) (g : G) (f : Nat → Nat) (w : World) (hr : g.Rng) (hg : GAt w b o g) (hf : FAt w bf of f) :
    Calls Try.prog 104 #[.pointer (some ⟨b, o, none⟩), .pointer (some ⟨bf, of, none⟩), .func (.func 105) #[] #[]] w (RetB (fieldTo g.wide g.high amount (fm f) 64) w) := by
  have hne := order_ne
  go_enter Try.func104, Try.ntmps104
  go_wp2_with fail
  go_loopw [10] (fun v10 wr => FieldRel g.wide g.high amount (fm f) w v10 wr) (fun v10 _ => 64 - (intOf v10).toNat)
  case atStart => exact ⟨0, by omega, rfl, rfl, Below.refl _ _⟩
  case round =>
    obtain ⟨k, hk, rfl, hto, hB⟩ := hrel
    have HG := Lib.hid (hg.below hB)
    have HF := Lib.hid (hf.below hB)
    have HB := Lib.hid hB
    have HT := Lib.hid hto
    clear hB hg hf hto
    by_cases hlt : k < 64
    · have hcell := HF.out k hlt
      have k1 : (k : Int) < 64 := by omega
      have k2 : (k : Int) < ((64 : Nat) : Int) := by omega
      have hb : bf < wr.heap.size := block_lt_of_cell hcell
      cases hh : hasB g.wide g.high k
      · have HH := Lib.hid hh
        clear hh
        cases he : feq (fb (f k)) (fb 0)
        · have HE := Lib.hid he
          go_wp2_with fail
          go_quiet (fail)
          go_wp2_with (go_at_call 178; refine (has_any b o k g _ hlt hr (HG.out.below (below_drawn (Below.refl _ _) _))).mono ?_; rw [HH.out]; rintro e w' ⟨rfl, rfl⟩)
          go_ret
          refine ⟨ret_bool ?_, below_drawn HB.out _⟩
          rw [fieldTo_bad hlt]
          rw [HH.out, fm_of hlt, ← fb0, HE.out]; rfl
        · have HE := Lib.hid he
          go_wp2_with fail
          go_quiet (fail)
          go_wp2_with (go_at_call 178; refine (has_any b o k g _ hlt hr (HG.out.below (below_drawn (Below.refl _ _) _))).mono ?_; rw [HH.out]; rintro e w' ⟨rfl, rfl⟩)
          go_roundw
          case rel => exact ⟨k + 1, by omega, by go_num, by rw [fieldTo_more, HT.out, HH.out, fm_of hlt, ← fb0, HE.out]; rfl, below_drawn HB.out _⟩
          case measure => simp [intOf]; omega
      · have HH := Lib.hid hh
        clear hh
        cases he : amount (fb (f k))
        · have HE := Lib.hid he
          clear he
          go_wp2_with fail
          go_quiet (fail)
          go_wp2_with (first | (go_at_call 178; refine (has_any b o k g _ hlt hr (HG.out.below (below_drawn (Below.refl _ _) _))).mono ?_; rw [HH.out]; rintro e w' ⟨rfl, rfl⟩) | (go_at_call 105; refine (isAmount_any (f k) _).mono ?_; rw [HE.out]; rintro e w1 ⟨rfl, hb1⟩; have HB1 := Lib.hid hb1; clear hb1))
          go_ret
          refine ⟨ret_bool ?_, (below_drawn HB.out _).trans (HB1.out.mono HB.out.size)⟩
          rw [fieldTo_bad hlt]
          rw [HH.out, fm_of hlt, HE.out]; rfl
        · have HE := Lib.hid he
          clear he
          go_wp2_with fail
          go_quiet (fail)
          go_wp2_with fail
          refine (has_any b o k g _ hlt hr (HG.out.below (below_drawn (Below.refl _ _) _))).mono ?_
          rw [HH.out]
          rintro e w' ⟨rfl, rfl⟩
          go_wp2_with fail
          refine (isAmount_any (f k) _).mono ?_
          rw [HE.out]
          rintro e w1 ⟨rfl, hb1⟩
          have HB1 := Lib.hid ((below_drawn HB.out nq).trans (hb1.mono HB.out.size))
          have HG1 := Lib.hid ((HG.out.below (below_drawn (Below.refl _ _) nq)).below hb1)
          clear hb1
          go_wp2_with (go_at_call 178; refine (has_any b o k g _ hlt hr HG1.out).mono ?_; rw [HH.out]; rintro e w' ⟨rfl, rfl⟩)
          go_roundw
          case rel => exact ⟨k + 1, by omega, by go_num, by rw [fieldTo_more, HT.out, HH.out, fm_of hlt, if_pos rfl, HE.out]; rfl, HB1.out⟩
          case measure => simp [intOf]; omega
    · go_wp2
      obtain rfl : k = 64 := by omega
      go_ret
      exact ⟨ret_bool HT.out.symm, HB.out⟩

set_option maxRecDepth 100000 in
set_option maxHeartbeats 800000 in
theorem fieldOk_plain (b o bf of : Nat) (g : G) (f : Nat → Nat) (w : World) (hr : g.Rng) (hg : GAt w b o g) (hf : FAt w bf of f) :
    Calls Try.prog 104 #[.pointer (some ⟨b, o, none⟩), .pointer (some ⟨bf, of, none⟩), .func (.func 106) #[] #[]] w (RetB (fieldTo g.wide g.high plain (fm f) 64) w) := by
  have hne := order_ne
  go_enter Try.func104, Try.ntmps104
  go_wp2_with fail
  go_loopw [10] (fun v10 wr => FieldRel g.wide g.high plain (fm f) w v10 wr) (fun v10 _ => 64 - (intOf v10).toNat)
  case atStart => exact ⟨0, by omega, rfl, rfl, Below.refl _ _⟩
  case round =>
    obtain ⟨k, hk, rfl, hto, hB⟩ := hrel
    have HG := Lib.hid (hg.below hB)
    have HF := Lib.hid (hf.below hB)
    have HB := Lib.hid hB
    have HT := Lib.hid hto
    clear hB hg hf hto
    by_cases hlt : k < 64
    · have hcell := HF.out k hlt
      have k1 : (k : Int) < 64 := by omega
      have k2 : (k : Int) < ((64 : Nat) : Int) := by omega
      have hb : bf < wr.heap.size := block_lt_of_cell hcell
      cases hh : hasB g.wide g.high k
      · have HH := Lib.hid hh
        clear hh
        cases he : feq (fb (f k)) (fb 0)
        · have HE := Lib.hid he
          go_wp2_with fail
          go_quiet (fail)
          go_wp2_with (go_at_call 178; refine (has_any b o k g _ hlt hr (HG.out.below (below_drawn (Below.refl _ _) _))).mono ?_; rw [HH.out]; rintro e w' ⟨rfl, rfl⟩)
          go_ret
          refine ⟨ret_bool ?_, below_drawn HB.out _⟩
          rw [fieldTo_bad hlt]
          rw [HH.out, fm_of hlt, ← fb0, HE.out]; rfl
        · have HE := Lib.hid he
          go_wp2_with fail
          go_quiet (fail)
          go_wp2_with (go_at_call 178; refine (has_any b o k g _ hlt hr (HG.out.below (below_drawn (Below.refl _ _) _))).mono ?_; rw [HH.out]; rintro e w' ⟨rfl, rfl⟩)
          go_roundw
          case rel => exact ⟨k + 1, by omega, by go_num, by rw [fieldTo_more, HT.out, HH.out, fm_of hlt, ← fb0, HE.out]; rfl, below_drawn HB.out _⟩
          case measure => simp [intOf]; omega
      · have HH := Lib.hid hh
        clear hh
        cases he : plain (fb (f k))
        · have HE := Lib.hid he
          clear he
          go_wp2_with fail
          go_quiet (fail)
          go_wp2_with (first | (go_at_call 178; refine (has_any b o k g _ hlt hr (HG.out.below (below_drawn (Below.refl _ _) _))).mono ?_; rw [HH.out]; rintro e w' ⟨rfl, rfl⟩) | (go_at_call 106; refine (IsPlain_any (f k) _).mono ?_; rw [HE.out]; rintro e w1 ⟨rfl, hb1⟩; have HB1 := Lib.hid hb1; clear hb1))
          go_ret
          refine ⟨ret_bool ?_, (below_drawn HB.out _).trans (HB1.out.mono HB.out.size)⟩
          rw [fieldTo_bad hlt]
          rw [HH.out, fm_of hlt, HE.out]; rfl
        · have HE := Lib.hid he
          clear he
          go_wp2_with fail
          go_quiet (fail)
          go_wp2_with fail
          refine (has_any b o k g _ hlt hr (HG.out.below (below_drawn (Below.refl _ _) _))).mono ?_
          rw [HH.out]
          rintro e w' ⟨rfl, rfl⟩
          go_wp2_with fail
          refine (IsPlain_any (f k) _).mono ?_
          rw [HE.out]
          rintro e w1 ⟨rfl, hb1⟩
          have HB1 := Lib.hid ((below_drawn HB.out nq).trans (hb1.mono HB.out.size))
          have HG1 := Lib.hid ((HG.out.below (below_drawn (Below.refl _ _) nq)).below hb1)
          clear hb1
          go_wp2_with (go_at_call 178; refine (has_any b o k g _ hlt hr HG1.out).mono ?_; rw [HH.out]; rintro e w' ⟨rfl, rfl⟩)
          go_roundw
          case rel => exact ⟨k + 1, by omega, by go_num, by rw [fieldTo_more, HT.out, HH.out, fm_of hlt, if_pos rfl, HE.out]; rfl, HB1.out⟩
          case measure => simp [intOf]; omega
    · go_wp2
      obtain rfl : k = 64 := by omega
      go_ret
      exact ⟨ret_bool HT.out.symm, HB.out⟩
end Go.Proofs.Ytfcphfdfpjmgiaa

namespace Go.Proofs.Ytfcphfdfpjmgiaa
open Go.RowKit

def orBit (a : Int) (c : Nat) : Int := bits BinOp.or IntKind.u64 a (IntKind.u64.wrap (2 ^ c))
def bitsL (l : List Nat) : Int := l.foldl orBit 0
theorem bitsL_snoc (l : List Nat) (c : Nat) : bitsL (l ++ [c]) = orBit (bitsL l) c := by simp [bitsL]

/-- A whole number is handed back. -/
def RetI (k : IntKind) (x : Int) (w : World) (e : Ending) (w' : World) : Prop := e = .returned (.int k x) ∧ Below w.heap.size w w'

def BitsRel (m : M) (w1 : World) (v3 v9 : Value) (wr : World) : Prop :=
  ∃ (j : Nat) (x : Int), j ≤ (cellsM m).length ∧ v9 = .int .i64 j ∧ v3 = .int .u64 x ∧ x = bitsL ((cellsM m).take j) ∧ wr = w1

set_option maxRecDepth 100000 in
set_option maxHeartbeats 400000 in
theorem bits_any (b o : Nat) (g : G) (w : World) (hr : g.Rng) (hg : GAt w b o g) :
    Calls Try.prog 107 #[.pointer (some ⟨b, o, none⟩)] w (RetI .u64 (bitsL (cellsM g.m)) w) := by
  go_enter Try.func107, Try.ntmps107
  go_wp2_with fail
  refine (cells_any b o g w hr hg).mono ?_
  rintro e w1 ⟨v, rfl, hown, hb1⟩
  obtain ⟨aL, cap, rfl, hL⟩ := list_form hown
  have HL := Lib.hid hL
  have HB1 := Lib.hid hb1
  clear hL hown hb1
  go_wp2_with fail
  go_loopw [3, 9] (fun v3 v9 wr => BitsRel g.m w1 v3 v9 wr) (fun _ v9 _ => (cellsM g.m).length - (intOf v9).toNat)
  case atStart => exact ⟨0, 0, by omega, rfl, rfl, rfl, rfl⟩
  case round =>
    obtain ⟨j, x, hj, rfl, rfl, hx, rfl⟩ := hrel
    have HX := Lib.hid hx
    clear hx
    by_cases hlt : j < (cellsM g.m).length
    · obtain ⟨c, hc⟩ : ∃ c, (cellsM g.m)[j]? = some c := ⟨_, List.getElem?_eq_getElem hlt⟩
      have hc64 : c < 64 := cellsTo_lt (List.mem_of_getElem? hc)
      have hj64 : j < 64 := Nat.lt_of_lt_of_le hlt (cellsTo_length _ _ _)
      obtain ⟨gq, rfl, hq1, hq2, hq3⟩ := HL.out j c hc
      have hlt' : (j : Int) < ((cellsTo g.wide g.high 64).length : Int) := by have : j < (cellsTo g.wide g.high 64).length := hlt; omega
      have HC := Lib.hid hc
      clear hc
      go_wp2_with fail
      exact ⟨⟨j + 1, _, by omega, by go_num, rfl, by rw [take_more HC.out, bitsL_snoc, ← HX.out]; rfl, rfl⟩, by simp [intOf]; omega⟩
    · have hjn : j = (cellsM g.m).length := by omega
      have hlt' : ¬ (j : Int) < ((cellsTo g.wide g.high 64).length : Int) := by have : ¬ j < (cellsTo g.wide g.high 64).length := hlt; omega
      have HJ := Lib.hid hjn
      clear hjn
      go_wp2_with fail
      go_ret
      exact ⟨ret_int (by rw [HX.out, List.take_of_length_le (Nat.le_of_eq HJ.out.symm)]), HB1.out⟩

set_option maxRecDepth 100000 in
set_option maxHeartbeats 400000 in
theorem l01Cells_any (b o : Nat) (g : G) (w : World) (hr : g.Rng) (hg : GAt w b o g) :
    Calls Try.prog 100 #[.pointer (some ⟨b, o, none⟩)] w (RetI .u64 (bitsL (cellsM g.m)) w) := by
  go_enter Try.func100, Try.ntmps100
  go_wp2_with fail
  go_loop [3, 4] (fun v3 v4 => ∃ (k : Nat) (x : Int), k ≤ 64 ∧ v4 = .int .i64 k ∧ v3 = .int .u64 x ∧ Hid (x = bitsL (cellsTo g.wide g.high k))) (fun _ v4 => 64 - (intOf v4).toNat)
  case atStart => exact ⟨0, 0, by omega, rfl, rfl, rfl⟩
  case round =>
    obtain ⟨k, x, hk, rfl, rfl, HX⟩ := hrel
    by_cases hlt : k < 64
    · cases hh : hasB g.wide g.high k
      · have HH := Lib.hid hh
        clear hh
        go_wp2_with (go_at_call 111; refine (l01Is_any b o k g _ hlt hr hg).mono ?_; rw [HH.out]; rintro e w' ⟨rfl, rfl⟩)
        go_round
        case rel => exact ⟨k + 1, x, by omega, by go_num, rfl, by rw [cellsTo_no HH.out]; exact HX⟩
        case measure => simp [intOf]; omega
      · have HH := Lib.hid hh
        clear hh
        go_wp2_with (go_at_call 111; refine (l01Is_any b o k g _ hlt hr hg).mono ?_; rw [HH.out]; rintro e w' ⟨rfl, rfl⟩)
        go_round
        case rel => exact ⟨k + 1, _, by omega, by go_num, rfl, by rw [cellsTo_yes HH.out, bitsL_snoc, ← HX.out]; rfl⟩
        case measure => simp [intOf]; omega
    · go_wp2
      obtain rfl : k = 64 := by omega
      go_ret
      exact ⟨ret_int HX.out, Below.refl _ _⟩

set_option maxRecDepth 100000 in
set_option maxHeartbeats 800000 in
theorem l01Field_any (b o bf of : Nat) (g : G) (f : Nat → Nat) (w : World) (hr : g.Rng) (hg : GAt w b o g) (hf : FAt w bf of f) :
    Calls Try.prog 176 #[.pointer (some ⟨b, o, none⟩), .pointer (some ⟨bf, of, none⟩)] w (RetB (fieldTo g.wide g.high plain (fm f) 64) w) := by
  have hne := order_ne
  go_enter Try.func176, Try.ntmps176
  go_wp2_with fail
  go_loopw [5] (fun v10 wr => FieldRel g.wide g.high plain (fm f) w v10 wr) (fun v10 _ => 64 - (intOf v10).toNat)
  case atStart => exact ⟨0, by omega, rfl, rfl, Below.refl _ _⟩
  case round =>
    obtain ⟨k, hk, rfl, hto, hB⟩ := hrel
    have HG := Lib.hid (hg.below hB)
    have HF := Lib.hid (hf.below hB)
    have HB := Lib.hid hB
    have HT := Lib.hid hto
    clear hB hg hf hto
    by_cases hlt : k < 64
    · have hcell := HF.out k hlt
      have k1 : (k : Int) < 64 := by omega
      have hb : bf < wr.heap.size := block_lt_of_cell hcell
      cases hh : hasB g.wide g.high k
      · have HH := Lib.hid hh
        clear hh
        cases he : feq (fb (f k)) (fb 0)
        · have HE := Lib.hid he
          go_wp2_with (go_at_call 111; refine (l01Is_any b o k g _ hlt hr HG.out).mono ?_; rw [HH.out]; rintro e w' ⟨rfl, rfl⟩)
          go_ret
          refine ⟨ret_bool ?_, HB.out⟩
          rw [fieldTo_bad hlt]
          rw [HH.out, fm_of hlt, ← fb0, HE.out]; rfl
        · have HE := Lib.hid he
          go_wp2_with (go_at_call 111; refine (l01Is_any b o k g _ hlt hr HG.out).mono ?_; rw [HH.out]; rintro e w' ⟨rfl, rfl⟩)
          go_roundw
          case rel => exact ⟨k + 1, by omega, by go_num, by rw [fieldTo_more, HT.out, HH.out, fm_of hlt, ← fb0, HE.out]; rfl, HB.out⟩
          case measure => simp [intOf]; omega
      · have HH := Lib.hid hh
        clear hh
        cases he : plain (fb (f k))
        · have HE := Lib.hid he
          clear he
          go_wp2_with (first | (go_at_call 111; refine (l01Is_any b o k g _ hlt hr HG.out).mono ?_; rw [HH.out]; rintro e w' ⟨rfl, rfl⟩) | (go_at_call 118; refine (l01Plain_any (f k) _).mono ?_; rw [HE.out]; rintro e w1 ⟨rfl, hb1⟩; have HB1 := Lib.hid hb1; clear hb1))
          go_ret
          refine ⟨ret_bool ?_, HB.out.trans (HB1.out.mono HB.out.size)⟩
          rw [fieldTo_bad hlt]
          rw [HH.out, fm_of hlt, HE.out]; rfl
        · have HE := Lib.hid he
          clear he
          go_wp2_with (go_at_call 111; refine (l01Is_any b o k g _ hlt hr HG.out).mono ?_; rw [HH.out]; rintro e w' ⟨rfl, rfl⟩)
          refine (l01Plain_any (f k) _).mono ?_
          rw [HE.out]
          rintro e w1 ⟨rfl, hb1⟩
          have HB1 := Lib.hid (HB.out.trans (hb1.mono HB.out.size))
          have HG1 := Lib.hid (HG.out.below hb1)
          clear hb1
          go_wp2_with (go_at_call 111; refine (l01Is_any b o k g _ hlt hr HG1.out).mono ?_; rw [HH.out]; rintro e w' ⟨rfl, rfl⟩)
          go_roundw
          case rel => exact ⟨k + 1, by omega, by go_num, by rw [fieldTo_more, HT.out, HH.out, fm_of hlt, if_pos rfl, HE.out]; rfl, HB1.out⟩
          case measure => simp [intOf]; omega
    · go_wp2
      obtain rfl : k = 64 := by omega
      go_ret
      exact ⟨ret_bool HT.out.symm, HB.out⟩
end Go.Proofs.Ytfcphfdfpjmgiaa

namespace Go.Proofs.Ytfcphfdfpjmgiaa
open Go.RowKit

def sized (m : M) : Prop := (2 ≤ m.wide ∧ m.wide ≤ 8) ∧ (2 ≤ m.high ∧ m.high ≤ 8)
instance (m : M) : Decidable (sized m) := by unfold sized; infer_instance
def fieldsI (m : M) : Bool := fieldTo m.wide m.high amount m.c 64 && fieldTo m.wide m.high plain m.g 64 && fieldTo m.wide m.high plain m.h 64
def fixedOk (m : M) : Bool := (m.fixed != 0) && (bits BinOp.andNot IntKind.u64 m.fixed (bitsL (cellsM m)) == 0)
/-- A ground is valid. -/
def okI (m : M) : Bool := decide (sized m) && fieldsI m && fixedOk m

theorem sized_of {m : M} (h : okI m = true) : sized m := by
  unfold okI at h
  simp only [Bool.and_eq_true, decide_eq_true_eq] at h
  exact h.1.1
theorem rng_of {g : G} (h : sized g.m) : g.Rng := ⟨⟨by have := h.1.1; show -128 ≤ g.m.wide; omega, by have := h.1.2; show g.m.wide ≤ 127; omega⟩, ⟨by have := h.2.1; show -128 ≤ g.m.high; omega, by have := h.2.2; show g.m.high ≤ 127; omega⟩⟩


set_option maxRecDepth 100000 in
set_option maxHeartbeats 1600000 in
theorem ValidGround_any (g : G) (w : World) (hrng : g.Rng) :
    Calls Try.prog 19 #[.agg (arrG g)] w (RetB (okI g.m) w) := by
  obtain ⟨⟨r0, r1⟩, ⟨r2, r3⟩⟩ := hrng
  by_cases hW : 2 ≤ g.wide ∧ g.wide ≤ 8
  rotate_left
  · have hok : okI g.m = false := by unfold okI; rw [decide_eq_false (fun h => hW h.1)]; rfl
    rw [hok]
    have HW := Lib.hid hW
    clear hok hW
    go_enter Try.func19, Try.ntmps19
    go_wp2_with (with_reducible refine wpList_box rfl ?_)
    intro B w1 hB1 hB2 hB3 hB4
    have hg := GAt.of_blk hB3
    have h0 := hg.wide
    go_wp2_with fail
    refine (in_no _ _ _ _ HW.out).mono ?_
    rintro e w' ⟨rfl, rfl⟩
    go_wp2_with fail
    go_ret
    exact ⟨rfl, hB4⟩
  by_cases hH : 2 ≤ g.high ∧ g.high ≤ 8
  rotate_left
  · have hok : okI g.m = false := by unfold okI; rw [decide_eq_false (fun h => hH h.2)]; rfl
    rw [hok]
    have HH := Lib.hid hH
    obtain ⟨q0, q1⟩ := hW
    clear hok hH
    go_enter Try.func19, Try.ntmps19
    go_wp2_with (with_reducible refine wpList_box rfl ?_)
    intro B w1 hB1 hB2 hB3 hB4
    have hg := GAt.of_blk hB3
    have h0 := hg.wide
    have h1 := hg.high
    go_wp2_with fail
    refine (in_yes _ _ _ _ q0 q1).mono ?_
    rintro e w' ⟨rfl, rfl⟩
    go_wp2_with fail
    refine (in_no _ _ _ _ HH.out).mono ?_
    rintro e w' ⟨rfl, rfl⟩
    go_wp2_with fail
    go_ret
    exact ⟨rfl, hB4⟩
  have hsz : sized g.m := ⟨hW, hH⟩
  have hr := rng_of hsz
  have hok : okI g.m = (fieldsI g.m && fixedOk g.m) := by unfold okI; rw [decide_eq_true hsz]; rfl
  rw [hok]
  obtain ⟨q0, q1⟩ := hW
  obtain ⟨q2, q3⟩ := hH
  clear hok hsz
  go_enter Try.func19, Try.ntmps19
  go_wp2_with (with_reducible refine wpList_box rfl ?_)
  intro B w1 hB1 hB2 hB3 hB4
  have hg := GAt.of_blk hB3
  have h0 := hg.wide
  have h1 := hg.high
  go_wp2_with fail
  refine (in_yes _ _ _ _ q0 q1).mono ?_
  rintro e w' ⟨rfl, rfl⟩
  go_wp2_with fail
  refine (in_yes _ _ _ _ q2 q3).mono ?_
  rintro e w' ⟨rfl, rfl⟩
  go_wp2_with fail
  cases e1 : fieldTo g.wide g.high amount (fm g.c) 64
  · have E1 := Lib.hid e1
    clear e1
    refine (fieldOk_amount B 0 B 2 g g.c w1 hr hg hg.fc).mono ?_
    rw [E1.out]
    rintro e w2 ⟨rfl, hb2⟩
    have HB2 := Lib.hid (hB4.trans (hb2.mono hB4.size))
    clear hb2 h0 h1 hg hB3 hB4
    go_wp2_with fail
    go_quiet (fail)
    go_wp2_with fail
    go_ret
    exact ⟨ret_bool (by simp [fieldsI, G.m, E1.out]), below_drawn HB2.out _⟩
  · have E1 := Lib.hid e1
    clear e1
    refine (fieldOk_amount B 0 B 2 g g.c w1 hr hg hg.fc).mono ?_
    rw [E1.out]
    rintro e w2 ⟨rfl, hb2⟩
    have HB2 := Lib.hid (hB4.trans (hb2.mono hB4.size))
    have hg2 := hg.below hb2
    clear hb2 h0 h1 hg hB3 hB4
    go_wp2_with fail
    cases e2 : fieldTo g.wide g.high plain (fm g.g) 64
    · have E2 := Lib.hid e2
      clear e2
      refine (fieldOk_plain B 0 B 66 g g.g w2 hr hg2 hg2.fg).mono ?_
      rw [E2.out]
      rintro e w3 ⟨rfl, hb3⟩
      have HB3 := Lib.hid (HB2.out.trans (hb3.mono HB2.out.size))
      clear hb3 hg2
      go_wp2_with fail
      go_quiet (fail)
      go_wp2_with fail
      go_ret
      exact ⟨ret_bool (by simp [fieldsI, G.m, E2.out]), below_drawn HB3.out _⟩
    · have E2 := Lib.hid e2
      clear e2
      refine (fieldOk_plain B 0 B 66 g g.g w2 hr hg2 hg2.fg).mono ?_
      rw [E2.out]
      rintro e w3 ⟨rfl, hb3⟩
      have HB3 := Lib.hid (HB2.out.trans (hb3.mono HB2.out.size))
      have hg3 := hg2.below hb3
      clear hb3 hg2
      go_wp2_with fail
      cases e3 : fieldTo g.wide g.high plain (fm g.h) 64
      · have E3 := Lib.hid e3
        clear e3
        refine (fieldOk_plain B 0 B 130 g g.h w3 hr hg3 hg3.fh).mono ?_
        rw [E3.out]
        rintro e w4 ⟨rfl, hb4⟩
        have HB4 := Lib.hid (HB3.out.trans (hb4.mono HB3.out.size))
        clear hb4 hg3
        go_wp2_with fail
        go_quiet (fail)
        go_wp2_with fail
        go_ret
        exact ⟨ret_bool (by simp [fieldsI, G.m, E3.out]), below_drawn HB4.out _⟩
      · have E3 := Lib.hid e3
        clear e3
        refine (fieldOk_plain B 0 B 130 g g.h w3 hr hg3 hg3.fh).mono ?_
        rw [E3.out]
        rintro e w4 ⟨rfl, hb4⟩
        have HB4 := Lib.hid (HB3.out.trans (hb4.mono HB3.out.size))
        have hg4 := hg3.below hb4
        have HG4 := Lib.hid hg4
        have h0 := hg4.fixed
        clear hb4 hg3 hg4
        cases e4 : (g.fixed != 0)
        · have E4 := Lib.hid e4
          go_wp2_with fail
          go_quiet (fail)
          go_wp2_with fail
          go_ret
          exact ⟨ret_bool (by simp [fixedOk, G.m, E4.out]), below_drawn HB4.out _⟩
        · have E4 := Lib.hid e4
          have hc := fun x => ext_cell w4 x h0
          clear h0
          go_wp2_with fail
          refine wp_soft (SV (.int .u64 (bitsL (cellsM g.m)))) (by kernel_rfl) (by kernel_rfl) ?_
          repeat (first | (refine soft_step (fun K hK => ?_); go_simp; (try go_bits); refine hK _ ?_; clear hK K) | (refine soft_step (fun K hK => ?_); go_simp; refine ⟨_, _, ⟨rfl, rfl⟩, fun x => (bits_any B 0 g _ hr (HG4.out.below (ext_below _ x))).mono ?_, ?_⟩; (rintro e w1 ⟨he, hb⟩; exact ⟨_, he, rfl, hb⟩); rintro v rfl; refine hK _ ?_; clear hK K))
          refine soft_nil ?_
          rintro w5 hw5
          have HB5 := Lib.hid (HB4.out.trans (hw5.below.mono HB4.out.size))
          clear hw5
          go_wp2_with fail
          go_ret
          exact ⟨ret_bool (by simp [fieldsI, fixedOk, G.m, E1.out, E2.out, E3.out, E4.out]), HB5.out⟩
end Go.Proofs.Ytfcphfdfpjmgiaa

namespace Go.Proofs.Ytfcphfdfpjmgiaa
open Go.RowKit

theorem order_none {d e : Ieee.Datum} (h : d.order e = none) : d.isNaN = true ∨ e.isNaN = true := by
  cases d <;> cases e <;> simp [Ieee.Datum.order, Ieee.Datum.isNaN] at h ⊢
theorem ford_none {x y : F} {a : Nat} (h : ford x (some a) = none) (ha : (Ieee.single.read a).isNaN = false) : ford x y = none := by
  cases x with
  | none => rfl
  | some b =>
    have hb : (Ieee.single.read b).isNaN = true := by
      rcases order_none (d := Ieee.single.read b) (e := Ieee.single.read a) h with h | h
      · exact h
      · rw [ha] at h; cases h
    cases y with
    | none => rfl
    | some c => show Ieee.single.order b c = none; unfold Ieee.Format.order; exact order_nan_l hb
theorem amount_eq (x : F) : amount x = (plain x && !flt x (some 0)) := by
  unfold amount
  cases h : ford x (some 0) with
  | none =>
    have h1 : ford x (some 3380609024) = none := ford_none h (by decide)
    simp [plain, fge, fgt, feq, h1]
  | some o => cases o <;> simp [fge, fgt, feq, flt, h]
theorem feq_lt (x : F) : feq x (some 0) = (feq x (some 0) && !flt x (some 0)) := by
  unfold feq flt
  cases h : ford x (some 0) with
  | none => rfl
  | some o => cases o <;> rfl

def posTo (f : Nat → F) (k : Nat) : Bool := (List.range k).all fun i => !flt (f i) (some 0)
theorem posTo_more {f : Nat → F} {k : Nat} : posTo f (k + 1) = (posTo f k && !flt (f k) (some 0)) := by
  unfold posTo; rw [List.range_succ, List.all_append]; simp
theorem posTo_bad {f : Nat → F} {k n : Nat} (hk : k < n) (h : flt (f k) (some 0) = true) : posTo f n = false := by
  unfold posTo; rw [List.all_eq_false]; exact ⟨k, List.mem_range.2 hk, by rw [h]; simp⟩
theorem field_amount (W H : Int) (f : Nat → F) (k : Nat) : fieldTo W H amount f k = (fieldTo W H plain f k && posTo f k) := by
  induction k with
  | zero => rfl
  | succ k ih =>
    rw [fieldTo_more, fieldTo_more, posTo_more, ih]
    cases hasB W H k
    · simp only [Bool.false_eq_true, if_false]
      rw [feq_lt (f k)]
      cases fieldTo W H plain f k <;> cases posTo f k <;> cases feq (f k) (some 0) <;> cases flt (f k) (some 0) <;> rfl
    · simp only [if_true]
      rw [amount_eq]
      cases fieldTo W H plain f k <;> cases posTo f k <;> cases plain (f k) <;> cases flt (f k) (some 0) <;> rfl
def fieldsS (m : M) : Bool := fieldTo m.wide m.high plain m.c 64 && fieldTo m.wide m.high plain m.g 64 && fieldTo m.wide m.high plain m.h 64 && posTo m.c 64
theorem fieldsS_eq (m : M) : fieldsI m = fieldsS m := by
  unfold fieldsI fieldsS
  rw [field_amount]
  cases fieldTo m.wide m.high plain m.c 64 <;> cases posTo m.c 64 <;> cases fieldTo m.wide m.high plain m.g 64 <;> cases fieldTo m.wide m.high plain m.h 64 <;> rfl

def PosRel (f : Nat → F) (w : World) (v : Value) (wr : World) : Prop := ∃ k : Nat, k ≤ 64 ∧ v = .int .i64 k ∧ posTo f k = true ∧ Below w.heap.size w wr

set_option maxRecDepth 100000 in
set_option maxHeartbeats 1600000 in
theorem l01Ok_any (b o : Nat) (g : G) (w : World) (hrng : g.Rng) (hg : GAt w b o g) :
    Calls Try.prog 94 #[.pointer (some ⟨b, o, none⟩)] w (RetB (okI g.m) w) := by
  have hlt' := order_lt
  have h0 := hg.wide
  have h1 := hg.high
  obtain ⟨⟨r0, r1⟩, ⟨r2, r3⟩⟩ := hrng
  by_cases hW : 2 ≤ g.wide ∧ g.wide ≤ 8
  rotate_left
  · have hok : okI g.m = false := by unfold okI; rw [decide_eq_false (fun h => hW h.1)]; rfl
    rw [hok]
    have HW := Lib.hid hW
    clear hok hW
    go_enter Try.func94, Try.ntmps94
    go_wp2_with fail
    refine (l00In_no _ _ _ _ HW.out).mono ?_
    rintro e w' ⟨rfl, rfl⟩
    go_wp2_with fail
    go_ret
    exact ⟨rfl, Below.refl _ _⟩
  by_cases hH : 2 ≤ g.high ∧ g.high ≤ 8
  rotate_left
  · have hok : okI g.m = false := by unfold okI; rw [decide_eq_false (fun h => hH h.2)]; rfl
    rw [hok]
    have HH := Lib.hid hH
    obtain ⟨q0, q1⟩ := hW
    clear hok hH
    go_enter Try.func94, Try.ntmps94
    go_wp2_with fail
    refine (l00In_yes _ _ _ _ q0 q1).mono ?_
    rintro e w' ⟨rfl, rfl⟩
    go_wp2_with fail
    refine (l00In_no _ _ _ _ HH.out).mono ?_
    rintro e w' ⟨rfl, rfl⟩
    go_wp2_with fail
    go_ret
    exact ⟨rfl, Below.refl _ _⟩
  have hsz : sized g.m := ⟨hW, hH⟩
  have hr := rng_of hsz
  have hok : okI g.m = (fieldsS g.m && fixedOk g.m) := by unfold okI; rw [decide_eq_true hsz, fieldsS_eq]; rfl
  rw [hok]
  obtain ⟨q0, q1⟩ := hW
  obtain ⟨q2, q3⟩ := hH
  clear hok hsz
  go_enter Try.func94, Try.ntmps94
  go_wp2_with fail
  refine (l00In_yes _ _ _ _ q0 q1).mono ?_
  rintro e w' ⟨rfl, rfl⟩
  go_wp2_with fail
  refine (l00In_yes _ _ _ _ q2 q3).mono ?_
  rintro e w' ⟨rfl, rfl⟩
  go_wp2_with fail
  refine (l01Field_any b o b (o + 2) g g.c w hr hg hg.fc).mono ?_
  cases e1 : fieldTo g.wide g.high plain (fm g.c) 64
  · rintro e w2 ⟨rfl, hb2⟩
    have E1 := Lib.hid e1
    have HB2 := Lib.hid hb2
    clear e1 hb2 h0 h1 hg
    go_wp2_with fail
    go_ret
    exact ⟨ret_bool (by simp [fieldsS, G.m, E1.out]), HB2.out⟩
  rintro e w2 ⟨rfl, hb2⟩
  have E1 := Lib.hid e1
  have HB2 := Lib.hid hb2
  have hg2 := hg.below hb2
  clear e1 hb2 h0 h1 hg
  go_wp2_with fail
  refine (l01Field_any b o b (o + 66) g g.g w2 hr hg2 hg2.fg).mono ?_
  cases e2 : fieldTo g.wide g.high plain (fm g.g) 64
  · rintro e w3 ⟨rfl, hb3⟩
    have E2 := Lib.hid e2
    have HB3 := Lib.hid (HB2.out.trans (hb3.mono HB2.out.size))
    clear e2 hb3 hg2
    go_wp2_with fail
    go_ret
    exact ⟨ret_bool (by simp [fieldsS, G.m, E2.out]), HB3.out⟩
  rintro e w3 ⟨rfl, hb3⟩
  have E2 := Lib.hid e2
  have HB3 := Lib.hid (HB2.out.trans (hb3.mono HB2.out.size))
  have hg3 := hg2.below hb3
  clear e2 hb3 hg2
  go_wp2_with fail
  refine (l01Field_any b o b (o + 130) g g.h w3 hr hg3 hg3.fh).mono ?_
  cases e3 : fieldTo g.wide g.high plain (fm g.h) 64
  · rintro e w4 ⟨rfl, hb4⟩
    have E3 := Lib.hid e3
    have HB4 := Lib.hid (HB3.out.trans (hb4.mono HB3.out.size))
    clear e3 hb4 hg3
    go_wp2_with fail
    go_ret
    exact ⟨ret_bool (by simp [fieldsS, G.m, E3.out]), HB4.out⟩
  rintro e w4 ⟨rfl, hb4⟩
  have E3 := Lib.hid e3
  have HB4 := Lib.hid (HB3.out.trans (hb4.mono HB3.out.size))
  have HG4 := Lib.hid (hg3.below hb4)
  clear e3 hb4 hg3
  go_wp2_with fail
  go_loopw [3] (fun v wr => PosRel (fm g.c) w4 v wr) (fun v _ => 64 - (intOf v).toNat)
  case atStart => exact ⟨0, by omega, rfl, rfl, Below.refl _ _⟩
  case round =>
    obtain ⟨k, hk, rfl, hto, hB⟩ := hrel
    have HG := Lib.hid (HG4.out.below hB)
    have HB := Lib.hid (HB4.out.trans (hB.mono HB4.out.size))
    have HBB := Lib.hid hB
    have HT := Lib.hid hto
    clear hB hto
    by_cases hk64 : k < 64
    · have hcell := HG.out.c hk64
      have k1 : (k : Int) < 64 := by omega
      cases he : flt (fb (g.c k)) (fb 0)
      · have HE := Lib.hid he
        go_wp2_with fail
        go_roundw
        case rel => exact ⟨k + 1, by omega, by go_num, by rw [posTo_more, HT.out, fm_of hk64, ← fb0, HE.out]; rfl, HBB.out⟩
        case measure => simp [intOf]; omega
      · have HE := Lib.hid he
        go_wp2_with fail
        go_ret
        exact ⟨ret_bool (by rw [fieldsS, show (G.m g).c = fm g.c from rfl, posTo_bad hk64 (by rw [fm_of hk64, ← fb0]; exact HE.out)]; simp), HB.out⟩
    · have h0 := HG.out.fixed
      have hkn : ¬ (k : Int) < 64 := by omega
      have HT2 : Hid (posTo (fm g.c) 64 = true) := by obtain rfl : k = 64 := by omega
                                                      exact HT.out
      cases e4 : (g.fixed != 0)
      · have E4 := Lib.hid e4
        go_wp2_with fail
        go_quiet (fail)
        go_wp2_with fail
        go_ret
        exact ⟨ret_bool (by simp [fixedOk, G.m, E4.out]), below_drawn HB.out _⟩
      · have E4 := Lib.hid e4
        have hc := fun x => ext_cell wr x h0
        clear h0
        go_wp2_with fail
        refine wp_soft (SV (.int .u64 (bitsL (cellsM g.m)))) (by kernel_rfl) (by kernel_rfl) ?_
        repeat (first | (refine soft_step (fun K hK => ?_); go_simp; (try go_bits); refine hK _ ?_; clear hK K) | (refine soft_step (fun K hK => ?_); go_simp; refine ⟨_, _, ⟨rfl, rfl⟩, fun x => (l01Cells_any b o g _ hr (HG.out.below (ext_below _ x))).mono ?_, ?_⟩; (rintro e w1 ⟨he, hb⟩; exact ⟨_, he, rfl, hb⟩); rintro v rfl; refine hK _ ?_; clear hK K))
        refine soft_nil ?_
        rintro w5 hw5
        have HB5 := Lib.hid (HB.out.trans (hw5.below.mono HB.out.size))
        clear hw5
        go_wp2_with fail
        go_ret
        exact ⟨ret_bool (by simp [fieldsS, fixedOk, G.m, E1.out, E2.out, E3.out, E4.out, HT2.out]), HB5.out⟩
end Go.Proofs.Ytfcphfdfpjmgiaa

namespace Go.Proofs.Ytfcphfdfpjmgiaa
open Go.RowKit

/-- The same number, wider. -/
def wid (x : F) : F := x.map fun b => Ieee.double.write (Ieee.single.read b)

theorem read_single (b : Nat) : (∃ s m e, Ieee.single.read b = .number s m e ∧ m < 16777216 ∧ -149 ≤ e ∧ e ≤ 104) ∨ (∃ s, Ieee.single.read b = .infinity s) ∨ (∃ s t, Ieee.single.read b = .nan s t) := by
  have hb : Ieee.single.binade = 8388608 := rfl
  have hi : Ieee.single.infRung = 2139095040 := rfl
  have hl : Ieee.single.leastPlace = -149 := rfl
  have hs : Ieee.single.signWeight = 2147483648 := rfl
  unfold Ieee.Format.read
  simp only [hb, hi, hl, hs]
  split
  · exact .inl ⟨_, _, _, rfl, by omega, by omega, by omega⟩
  · split
    · refine .inl ⟨_, _, _, rfl, by omega, by omega, by omega⟩
    · split
      · exact .inr (.inl ⟨_, rfl⟩)
      · exact .inr (.inr ⟨_, _, rfl⟩)

theorem cut_zero (s : Bool) (n : Nat) : Ieee.Toward.even.cut s n 0 = n := by
  unfold Ieee.Toward.cut
  simp [Nat.mod_one]

theorem wide_finite (s : Bool) (m : Nat) (e : Int) (hm : m < 16777216) (h1 : -149 ≤ e) (h2 : e ≤ 104) : (Ieee.double.read (Ieee.double.write (.number s m e))).isInfinity = false := by
  show (Ieee.double.read (Ieee.double.nearest s m e)).isInfinity = false
  have hf : Ieee.double.fractionBits = 52 := rfl
  have hl : Ieee.double.leastPlace = -1074 := rfl
  have hb : Ieee.double.binade = 4503599627370496 := rfl
  have hi : Ieee.double.infRung = 9218868437227405312 := rfl
  have hs : Ieee.double.signWeight = 9223372036854775808 := rfl
  have key : ∃ r, r < 9218868437227405312 ∧ Ieee.double.nearest s m e = Ieee.double.word s r := by
    unfold Ieee.Format.nearest
    by_cases h0 : m = 0
    · rw [if_pos h0]; exact ⟨0, by decide, rfl⟩
    · rw [if_neg h0]
      have hlog : m.log2 ≤ 23 := by
        have := (Nat.log2_lt h0 (k := 24)).2 (by omega)
        omega
      have hlt : m < 2 ^ (m.log2 + 1) := Nat.lt_log2_self
      simp only [hf, hl, hb, hi]
      have e1 : max (e + (m.log2 : Int) - ((52 : Nat) : Int)) (-1074) = e + (m.log2 : Int) - 52 := by omega
      rw [e1]
      have e2 : (e - (e + (m.log2 : Int) - 52)).toNat = 52 - m.log2 := by omega
      have e3 : (e + (m.log2 : Int) - 52 - e).toNat = 0 := by omega
      rw [e2, e3, cut_zero]
      have hk : m <<< (52 - m.log2) < 2 ^ 53 := by
        rw [Nat.shiftLeft_eq]
        calc m * 2 ^ (52 - m.log2) < 2 ^ (m.log2 + 1) * 2 ^ (52 - m.log2) := Nat.mul_lt_mul_of_pos_right hlt (Nat.two_pow_pos _)
          _ = 2 ^ 53 := by rw [← Nat.pow_add]; congr 1; omega
      have ht : (e + (m.log2 : Int) - 52 - -1074).toNat ≤ 1149 := by omega
      refine ⟨_, ?_, rfl⟩
      refine Nat.lt_of_le_of_lt (Nat.min_le_left _ _) ?_
      have := Nat.mul_le_mul_right 4503599627370496 ht
      omega
  obtain ⟨r, hr, he⟩ := key
  rw [he]
  have hm2 : Ieee.double.word s r % Ieee.double.signWeight = r := by
    unfold Ieee.Format.word
    split
    · rw [Nat.add_mod_left]; exact Nat.mod_eq_of_lt (by rw [hs]; omega)
    · exact Nat.mod_eq_of_lt (by rw [hs]; omega)
  unfold Ieee.Format.read
  simp only [hm2, hi]
  split
  · rfl
  · first
      | rfl
      | (split
         · rfl
         · split
           · omega
           · omega)

theorem cut_nanConv (b t : Nat) : db ((Question.nanConv .f64 b).cut t) = none := by
  have h2 : t / 2 % (2 ^ 52 - 1) < 2 ^ 52 - 1 := Nat.mod_lt _ (by decide)
  have h1 : t % 2 < 2 := Nat.mod_lt _ (by decide)
  have e : (Question.nanConv .f64 b).cut t = (t % 2) * 2 ^ 63 + 0x7ff0000000000000 + 1 + (t / 2) % (2 ^ 52 - 1) := rfl
  rw [e]
  generalize t % 2 = a at *
  generalize t / 2 % (2 ^ 52 - 1) = c at *
  have hb : Ieee.double.binade = 4503599627370496 := rfl
  have hi : Ieee.double.infRung = 9218868437227405312 := rfl
  have hs : Ieee.double.signWeight = 9223372036854775808 := rfl
  have hm : (a * 2 ^ 63 + 0x7ff0000000000000 + 1 + c) % Ieee.double.signWeight = 0x7ff0000000000000 + 1 + c := by
    show (a * 2 ^ 63 + 0x7ff0000000000000 + 1 + c) % 9223372036854775808 = _
    omega
  have hn : (Ieee.double.read (a * 2 ^ 63 + 0x7ff0000000000000 + 1 + c)).isNaN = true := by
    unfold Ieee.Format.read
    simp only [hb, hi]
    rw [hm, if_neg (by omega), if_neg (by omega), if_neg (by omega)]
    rfl
  unfold db fbOf
  rw [hn]
  rfl

section
variable {P : Program} (w : World)
/-- 'float64(x)' of a float32. -/
theorem run_wide {src dst : TypeId} {b : Nat} (hs : (P.underlying src).isSome = true) (hd : P.underlying dst = some (.float .f64)) :
    ∃ d n, (convert src dst (.float .f32 b)).run P w = .ok (.float .f64 d) (w.drewN n) ∧ db d = wid (fb b) := by
  obtain ⟨u, hu⟩ := Option.isSome_iff_exists.1 hs
  rcases read_single b with ⟨s, m, e, he, h1, h2, h3⟩ | ⟨s, he⟩ | ⟨s, t, he⟩
  · refine ⟨Ieee.double.write (Ieee.single.read b), 0, ?_, ?_⟩
    · have hw := wide_finite s m e h1 h2 h3
      refine run_convert_float_float w src dst .f32 .f64 b _ hs hd ?_
      unfold floatToFloatBits
      rw [if_neg (by simp)]
      have hde : FloatKind.f32.decode b = .number s m e := he
      rw [hde]
      simp only
      have hii : (FloatKind.f64.decode (FloatKind.f64.encode (.number s m e))).isInfinity = false := hw
      rw [hii, he]
      rfl
    · have hx : fb b = some b := by unfold fb fbOf; rw [he]; rfl
      rw [hx]
      have := write_num Ieee.double (Ieee.single.read b) (by rw [he]; rfl)
      unfold db fbOf
      rw [this]; rfl
  · refine ⟨Ieee.double.write (Ieee.single.read b), 0, ?_, ?_⟩
    · refine run_convert_float_float w src dst .f32 .f64 b _ hs hd ?_
      unfold floatToFloatBits
      rw [if_neg (by simp)]
      have hde : FloatKind.f32.decode b = .infinity s := he
      rw [hde, he]; rfl
    · have hx : fb b = some b := by unfold fb fbOf; rw [he]; rfl
      rw [hx]
      have := write_num Ieee.double (Ieee.single.read b) (by rw [he]; rfl)
      unfold db fbOf
      rw [this]; rfl
  · refine ⟨(Question.nanConv .f64 b).cut (w.tape w.drawn (.nanConv .f64 b)), 1, ?_, ?_⟩
    · have hde : FloatKind.f32.decode b = .nan s t := he
      cases u <;> simp [convert, run_underlying hu, run_underlying hd, Conv.floatToFloat, hde, choose, Sem.run, Question.forced, World.drewN]
    · have hx : fb b = none := by unfold fb fbOf; rw [he]; rfl
      rw [hx, cut_nanConv]; rfl
end
end Go.Proofs.Ytfcphfdfpjmgiaa

namespace Go.Proofs.Ytfcphfdfpjmgiaa
open Go.RowKit

theorem order_self {d : Ieee.Datum} (h : d.isNaN = false) : d.order d = some .eq := by
  cases d with
  | number s m e => simp [Ieee.Datum.order]
  | infinity s => simp [Ieee.Datum.order]
  | nan s t => cases h

theorem db_none {a : Nat} (h : db a = none) (x : Nat) : FloatKind.f64.format.order a x = none := by
  have hn : (Ieee.double.read a).isNaN = true := by
    unfold db fbOf at h
    split at h
    · assumption
    · cases h
  show Ieee.double.order a x = none
  unfold Ieee.Format.order
  exact order_nan_l hn
theorem db_some {a b : Nat} (h : db a = some b) : a = b ∧ FloatKind.f64.format.order a a = some .eq := by
  unfold db fbOf at h
  split at h
  · cases h
  · rename_i hn
    cases h
    refine ⟨rfl, ?_⟩
    show Ieee.double.order a a = _
    unfold Ieee.Format.order
    exact order_self (by simpa using hn)

theorem zero_of_eq {a : Nat} (h : FloatKind.f64.format.order a 0 = some .eq) : ∃ s e, Ieee.double.read a = .number s 0 e := by
  have h' : (Ieee.double.read a).order (Ieee.double.read 0) = some .eq := h
  have h0 : Ieee.double.read 0 = .number false 0 (-1074) := by decide
  rw [h0] at h'
  cases hd : Ieee.double.read a with
  | number s m e =>
    rw [hd] at h'
    simp only [Ieee.Datum.order, Option.some.injEq] at h'
    have h2 := Int.compare_eq_eq.1 h'
    have h3 : Ieee.signed false 0 (-1074 - min e (-1074)).toNat = 0 := by simp [Ieee.signed]
    rw [h3] at h2
    have h4 : m <<< (e - min e (-1074)).toNat = 0 := by
      unfold Ieee.signed at h2
      split at h2 <;> omega
    rw [Nat.shiftLeft_eq] at h4
    have h5 : m = 0 := by
      rcases Nat.mul_eq_zero.1 h4 with h5 | h5
      · exact h5
      · exact absurd h5 (Nat.pos_iff_ne_zero.1 (Nat.two_pow_pos _))
    subst h5
    exact ⟨s, e, rfl⟩
  | infinity s => rw [hd] at h'; cases s <;> simp [Ieee.Datum.order] at h'
  | nan s t => rw [hd] at h'; simp [Ieee.Datum.order] at h'

theorem one_over {a : Nat} (h : FloatKind.f64.format.order a 0 = some .eq) : ∃ r, floatBits .quo .f64 4607182418800017408 a = some r := by
  obtain ⟨s, e, hd⟩ := zero_of_eq h
  have h1 : Ieee.double.read 4607182418800017408 = .number false 4503599627370496 (-52) := by decide
  refine ⟨Ieee.double.write (.infinity (false ^^ s)), ?_⟩
  show Ieee.double.div _ _ = _
  unfold Ieee.Format.div
  rw [h1, hd]
  rfl

set_option maxHeartbeats 400000 in
theorem sameFloat_any (a b : Nat) (w : World) (h : db a = db b) :
    Calls Try.prog 173 #[.float .f64 a, .float .f64 b] w (RetB true w) := by
  cases hb : db b with
  | none =>
    have h1 := db_none (h.trans hb) a
    have h2 := db_none hb b
    clear h hb
    go_enter Try.func173, Try.ntmps173
    go_wp2_with fail
    go_ret
    exact ⟨ret_bool rfl, Below.refl _ _⟩
  | some c =>
    obtain ⟨rfl, h1⟩ := db_some (h.trans hb)
    obtain ⟨rfl, _⟩ := db_some hb
    clear h hb
    cases h0 : (FloatKind.f64.format.order b 0 == some .eq)
    · go_enter Try.func173, Try.ntmps173
      go_wp2_with fail
      go_ret
      exact ⟨ret_bool rfl, Below.refl _ _⟩
    · obtain ⟨r, hr⟩ := one_over (by simpa using h0)
      have hq := fun w' => run_float_arith (P := Try.prog) w' .quo 154 .f64 _ _ _ hr
      clear hr
      go_enter Try.func173, Try.ntmps173
      go_wp2_with fail
      all_goals
        go_ret
        exact ⟨ret_bool (by simp), Below.refl _ _⟩

/-- d is the wide number x. -/
def IsD (d : Nat) (x : F) : Prop := db d = x
theorem IsD.out {d : Nat} {x : F} (h : IsD d x) : db d = x := h

theorem soft_wide {P : Program} {ops : Array Oper} {C : World → Prop} {S : FuncId → Array Value → Value → Prop} {Q : Act → Prop} {a : Act} {rest : List Oper} {dst : Option Tmp} {src tgt ty : TypeId} {X : Operand} {pos : String} {after : Array Edge}
    (hC : ∀ w n, C w → C (w.drewN n)) (hs : (P.underlying src).isSome = true) (hd : P.underlying tgt = some (.float .f64)) (hx : a.eval X = .float .f32 (f32 (a.eval X)))
    (h : ∀ r, IsD r (wid (fb (f32 (a.eval X)))) → wpSoft P ops C S Q rest (a.put dst (.float .f64 r))) :
    wpSoft P ops C S Q (⟨dst, .convert src tgt X, ty, pos, after, none⟩ :: rest) a := by
  refine soft_some (fun v => ∃ d, v = .float .f64 d ∧ IsD d (wid (fb (f32 (a.eval X))))) rfl (fun w hw => ?_) ?_
  · obtain ⟨d, n, h1, h2⟩ := run_wide (P := P) w (src := src) (dst := tgt) (b := f32 (a.eval X)) hs hd
    rw [← hx] at h1
    exact ⟨_, _, by simp [execOp, h1], hC w n hw, d, rfl, h2⟩
  · rintro v ⟨d, rfl, hd'⟩
    exact h d hd'

theorem wpList_wideG {P : Program} {ops : Array Oper} {Q : Exit → Act → World → Prop} {rest : List Oper} {a : Act} {w : World} {dst : Option Tmp} {src tgt ty : TypeId} {X : Operand} {pos : String} {after : Array Edge} {gd : Option (Nat × Bool)}
    (hgd : Region.wanted ⟨dst, .convert src tgt X, ty, pos, after, gd⟩ (yielded ops a.tmps) = true) (hs : (P.underlying src).isSome = true) (hd : P.underlying tgt = some (.float .f64)) (hx : a.eval X = .float .f32 (f32 (a.eval X)))
    (h : ∀ d n, IsD d (wid (fb (f32 (a.eval X)))) → wpList P ops Q rest (a.put dst (.float .f64 d)) (w.drewN n)) : wpList P ops Q (⟨dst, .convert src tgt X, ty, pos, after, gd⟩ :: rest) a w := by
  obtain ⟨d, n, h1, h2⟩ := run_wide (P := P) w (src := src) (dst := tgt) (b := f32 (a.eval X)) hs hd
  rw [← hx] at h1
  refine wpList_step fun K hK => ?_
  rw [if_pos hgd]
  unfold Oper.wp
  have : (execOp a.eval ⟨dst, .convert src tgt X, ty, pos, after, gd⟩).run P w = .ok (.value (.float .f64 d)) (w.drewN n) := by simp [execOp, h1]
  rw [this]
  exact hK _ _ (h d n h2)

def EqRel (w : World) (v : Value) (wr : World) : Prop := ∃ k : Nat, k ≤ 64 ∧ v = .int .i64 k ∧ Below w.heap.size w wr

set_option maxRecDepth 100000 in
set_option maxHeartbeats 400000 in
theorem eqField_any (f f' : Nat → Nat) (w : World) (h : fm f = fm f') :
    Calls Try.prog 89 #[.agg (arrF f), .agg (arrF f')] w (RetB true w) := by
  have HH := Lib.hid h
  clear h
  go_enter Try.func89, Try.ntmps89
  go_wp2_with (with_reducible refine wpList_box rfl ?_)
  intro A wA hA1 hA2 hA3 hA4
  go_wp2_with (with_reducible refine wpList_box rfl ?_)
  intro B wB hB1 hB2 hB3 hB4
  have hA3' := hA3.later hB4
  have HB := Lib.hid (hA4.trans (hB4.mono hA4.size))
  clear hA3 hA4 hB4
  go_wp2_with fail
  go_loopw [5] (fun v wr => EqRel wB v wr) (fun v _ => 64 - (intOf v).toNat)
  case atStart => exact ⟨0, by omega, rfl, Below.refl _ _⟩
  case round =>
    obtain ⟨k, hk, rfl, hBr⟩ := hrel
    have HBr := Lib.hid hBr
    by_cases hlt : k < 64
    · have c1 := fun x => ext_cell wr x ((hA3'.later hBr).at (arrF_get f hlt))
      have c2 := fun x => ext_cell wr x ((hB3.later hBr).at (arrF_get f' hlt))
      have k1 : (k : Int) < 64 := by omega
      have hdd : Hid (wid (fb (f k)) = wid (fb (f' k))) := by
        have := congrFun HH.out k
        rw [fm_of hlt, fm_of hlt] at this
        show wid (fb (f k)) = wid (fb (f' k))
        rw [this]
      clear hBr hA3' hB3
      go_wp2_with fail
      refine wp_soft (SV (.bool true)) (by kernel_rfl) (by kernel_rfl) ?_
      repeat (first | ((with_reducible refine soft_wide ?_ ?_ ?_ ?_ ?_); (exact fun _ n h => h.drewN n); (exact rfl); (exact Try.underlying154); (exact rfl); intro r hr) | (refine soft_step (fun K hK => ?_); go_simp; (try go_bits); refine hK _ ?_; clear hK K) | (refine soft_step (fun K hK => ?_); go_simp; refine ⟨_, _, ⟨rfl, rfl⟩, fun x => (sameFloat_any _ _ _ ?_).mono ?_, ?_⟩; (rename_i d1 h1; exact h1.out.trans (hdd.out.trans hr.out.symm)); (rintro e w1 ⟨he, hb⟩; exact ⟨_, he, rfl, hb⟩); rintro v rfl; refine hK _ ?_; clear hK K))
      refine soft_nil ?_
      rintro w5 hw5
      have HB5 := Lib.hid (HBr.out.trans (hw5.below.mono HBr.out.size))
      clear hw5
      go_wp2_with fail
      go_roundw
      case rel => exact ⟨k + 1, by omega, by go_num, HB5.out⟩
      case measure => simp [intOf]; omega
    · go_wp2
      go_ret
      exact ⟨rfl, HB.out.trans (HBr.out.mono HB.out.size)⟩

theorem arrF_congr {f f' : Nat → Nat} (h : ∀ i, i < 64 → f i = f' i) : arrF f = arrF f' := by
  apply Array.ext_getElem?
  intro i
  by_cases hi : i < 64
  · rw [arrF_get _ hi, arrF_get _ hi, h i hi]
  · rw [Array.getElem?_eq_none (xs := arrF f) (by rw [arrF_size]; omega), Array.getElem?_eq_none (by rw [arrF_size]; omega)]

def CopyRel (f : Nat → Nat) (w1 : World) (B : Nat) (v : Value) (wr : World) : Prop :=
  ∃ k : Nat, k ≤ 64 ∧ v = .int .i64 k ∧ Blk wr B (arrF fun i => if i < k then f i else 0) 27 ∧ w1.grownBy wr (some B)

set_option maxRecDepth 100000 in
set_option maxHeartbeats 400000 in
theorem toField_any (f : Nat → Nat) (w : World) :
    Calls Try.prog 172 #[.agg (arrF f)] w fun e w' => e = .returned (.agg (arrF f)) ∧ Below w.heap.size w w' := by
  go_enter Try.func172, Try.ntmps172
  go_wp2_with (with_reducible refine wpList_box rfl ?_)
  intro A wA hA1 hA2 hA3 hA4
  go_wp2_with (first | (with_reducible refine wpList_new newF ?_) | (with_reducible refine wpList_zero (zeroF _) ?_) | (with_reducible refine wpList_new newG ?_) | (with_reducible refine wpList_zero (zeroG _) ?_))
  intro R wR hR1 hR2 hR3 hR4
  go_wp2_with (first | (with_reducible refine wpList_new newF ?_) | (with_reducible refine wpList_zero (zeroF _) ?_) | (with_reducible refine wpList_new newG ?_) | (with_reducible refine wpList_zero (zeroG _) ?_))
  intro B wB hB1 hB2 hB3 hB4
  have hAB := Lib.hid ((hA3.later hR4).later hB4)
  have hRB := Lib.hid (hR3.later hB4)
  have hBel := (hA4.trans (hR4.mono hA4.size)).trans (hB4.mono (Nat.le_trans hA4.size hR4.size))
  have HB := Lib.hid hBel
  have HB3 := Lib.hid hB3
  have hRn : R < B := by omega
  have hAn : A < B := by omega
  have hwB : w.heap.size ≤ B := by have := hA4.size; omega
  clear hA3 hR3 hA4 hR4 hB4 hBel hB3
  go_wp2_with fail
  go_loopw [4] (fun v wr => CopyRel f wB B v wr) (fun v _ => 64 - (intOf v).toNat)
  case atStart => exact ⟨0, by omega, rfl, HB3.out, grown_refl _ _⟩
  case round =>
    obtain ⟨k, hk, rfl, hb, hgr⟩ := hrel
    have HGR := Lib.hid hgr
    by_cases hlt : k < 64
    · have c1 := (hAB.out.grown hgr (by omega)).at (arrF_get f hlt)
      have k1 : (k : Int) < 64 := by omega
      have HBB := Lib.hid hb
      clear hgr hb
      go_wp2_with ((with_reducible refine wpList_setF (k := k) (r := f k) HBB.out hlt ?_ ?_ ?_); rfl; rfl)
      intro w3 h31 h32 h33
      have H33 := Lib.hid (grown_trans HGR.out h33)
      have H32 : Hid (Blk w3 B (arrF fun i => if i < k + 1 then f i else 0) 27) := by
        have e : arrF (upd (fun i => if i < k then f i else 0) k (f k)) = arrF fun i => if i < k + 1 then f i else 0 := arrF_congr fun i _ => by
          unfold upd
          by_cases e : i = k
          · subst e; simp
          · rw [if_neg e]
            show (if i < k then f i else 0) = _
            by_cases e2 : i < k
            · rw [if_pos e2, if_pos (by omega)]
            · rw [if_neg e2, if_neg (by omega)]
        rw [e] at h32; exact h32
      clear h32 h33
      go_wp2_with fail
      go_roundw
      case rel => exact ⟨k + 1, by omega, by go_num, H32.out, H33.out⟩
      case measure => simp [intOf]; omega
    · have hk' : k = 64 := by omega
      have HF : Hid (Blk wr B (arrF f) 27) := by
        subst hk'
        rw [arrF_congr (f := fun i => if i < 64 then f i else 0) (f' := f) (fun i hi => if_pos hi)] at hb
        exact hb
      have hRr := Lib.hid (hRB.out.grown hgr (by omega))
      clear hb hgr hk'
      go_wp2_with (first | ((with_reducible refine wpList_getF HF.out ?_ ?_); rfl) | ((with_reducible refine wpList_putF (f := f) hRr.out ?_ ?_ ?_); rfl; rfl))
      intro w3 h31 h32 h33
      go_wp2_with fail
      first
        | refine ret_cell1 rfl rfl (loadF h32) rfl ⟨rfl, ?_⟩
      exact below_grown (below_grown HB.out HGR.out HB.out.size hwB) h33 (by have := HB.out.size; have := HGR.out.size; omega) (by omega)
end Go.Proofs.Ytfcphfdfpjmgiaa

namespace Go.Proofs.Ytfcphfdfpjmgiaa
open Go.RowKit

theorem cell_setW (g : G) (v : Int) (i : Nat) : G.cell { g with wide := v } i = if i = 0 then .int .i8 v else g.cell i := by
  unfold G.cell
  by_cases h : i = 0
  · rw [if_pos h, if_pos h]
  · simp only [h, if_false]
theorem cell_setHi (g : G) (v : Int) (i : Nat) : G.cell { g with high := v } i = if i = 1 then .int .i8 v else g.cell i := by
  unfold G.cell
  by_cases h : i = 1
  · subst h; rfl
  · simp only [h, if_false]
theorem cell_setFx (g : G) (v : Int) {i : Nat} (hi : i < 195) : G.cell { g with fixed := v } i = if i = 194 then .int .u64 v else g.cell i := by
  unfold G.cell
  by_cases h : i = 194
  · subst h; rfl
  · rw [if_neg h]
    have : i < 194 := by omega
    simp only [this, if_true]
theorem cell_setC (g : G) (f : Nat → Nat) (i : Nat) : G.cell { g with c := f } i = if 2 ≤ i ∧ i < 66 then .float .f32 (f (i - 2)) else g.cell i := by
  unfold G.cell
  repeat' (first | (exfalso; omega) | split | rfl)
theorem cell_setG (g : G) (f : Nat → Nat) (i : Nat) : G.cell { g with g := f } i = if 66 ≤ i ∧ i < 130 then .float .f32 (f (i - 66)) else g.cell i := by
  unfold G.cell
  repeat' (first | (exfalso; omega) | split | rfl)
theorem cell_setHs (g : G) (f : Nat → Nat) (i : Nat) : G.cell { g with h := f } i = if 130 ≤ i ∧ i < 194 then .float .f32 (f (i - 130)) else g.cell i := by
  unfold G.cell
  repeat' (first | (exfalso; omega) | split | rfl)

theorem arrG_set1 {g g' : G} {k : Nat} {v : Value} (hk : k < 195) (h : ∀ i, i < 195 → g'.cell i = if i = k then v else g.cell i) : (arrG g).setIfInBounds k v = arrG g' := by
  apply Array.ext_getElem?
  intro i
  rw [Array.getElem?_setIfInBounds]
  by_cases hi : i < 195
  · rw [arrG_get _ hi, arrG_get _ hi, arrG_size, h i hi]
    by_cases e : k = i
    · rw [if_pos e, if_pos (by omega), if_pos e.symm]
    · rw [if_neg e, if_neg (fun x => e x.symm)]
  · rw [if_neg (by omega), Array.getElem?_eq_none (by rw [arrG_size]; omega), Array.getElem?_eq_none (by rw [arrG_size]; omega)]
/-- A field written into a ground's cells. -/
theorem arrG_splice {g g' : G} {f : Nat → Nat} {o : Nat} (ho : o + 64 ≤ 195) (h : ∀ i, i < 195 → g'.cell i = if o ≤ i ∧ i < o + 64 then .float .f32 (f (i - o)) else g.cell i) :
    ((arrG g).toList.take (o + 0) ++ (arrF f).toList ++ (arrG g).toList.drop (o + 0 + (arrF f).toList.length)).toArray = arrG g' := by
  have l1 : (arrG g).toList.length = 195 := by rw [Array.length_toList, arrG_size]
  have l2 : (arrF f).toList.length = 64 := by rw [Array.length_toList, arrF_size]
  apply Array.ext_getElem?
  intro i
  rw [List.getElem?_toArray, l2]
  by_cases hi : i < 195
  · rw [arrG_get _ hi, h i hi]
    by_cases c1 : i < o
    · rw [if_neg (by omega), List.append_assoc, List.getElem?_append_left (by rw [List.length_take, l1]; omega), List.getElem?_take, if_pos (by omega), Array.getElem?_toList, arrG_get _ hi]
    · by_cases c2 : i < o + 64
      · rw [if_pos ⟨by omega, c2⟩, List.append_assoc, List.getElem?_append_right (by rw [List.length_take, l1]; omega), List.getElem?_append_left (by rw [List.length_take, l1, l2]; omega), List.length_take, l1,
          show i - min (o + 0) 195 = i - o by omega, Array.getElem?_toList, arrF_get _ (by omega)]
      · rw [if_neg (by omega), List.getElem?_append_right (by rw [List.length_append, List.length_take, l1, l2]; omega), List.length_append, List.length_take, l1, l2, List.getElem?_drop,
          show o + 0 + 64 + (i - (min (o + 0) 195 + 64)) = i by omega, Array.getElem?_toList, arrG_get _ hi]
  · rw [Array.getElem?_eq_none (by rw [arrG_size]; omega), List.getElem?_eq_none (by rw [List.length_append, List.length_append, List.length_take, List.length_drop, l1, l2]; omega)]

theorem size8 : (Try.prog.info? 24).map (·.size) = some 1 := by kernel_rfl
theorem sizeU : (Try.prog.info? 28).map (·.size) = some 1 := by kernel_rfl
theorem sizeA : (Try.prog.info? 26).map (·.size) = some 64 := by kernel_rfl

section
variable {ops : Array Oper} {Q : Exit → Act → World → Prop} {rest : List Oper} {a : Act} {w : World} {dst : Option Tmp} {ty : TypeId} {X Y : Operand} {pos : String} {after : Array Edge} {B : Nat} {t : TypeId}

/-- A field is read out of the middle of a block. -/
theorem wpList_getFAt {T : TypeId} {d : TypeDesc} {b o : Nat} {f : Nat → Nat} (hu : Try.prog.underlying T = some d) (hd : (match d with | .struct _ | .array _ _ => true | _ => false) = true) (hi : (Try.prog.info? T).map (·.size) = some 64)
    (hf : FAt w b o f) (hx : a.eval X = .pointer (some ⟨b, o, none⟩))
    (h : wpList Try.prog ops Q rest (a.put dst (.agg (arrF f))) w) : wpList Try.prog ops Q (⟨dst, .load T X, ty, pos, after, none⟩ :: rest) a w :=
  wpList_ran rfl (by
    obtain ⟨ti, h1, h2⟩ := Option.map_eq_some_iff.1 hi
    have hagg : (isAgg T).run Try.prog w = .ok true w := by
      unfold isAgg
      rw [Sem.run_bind, run_underlying hu w]
      cases d <;> simp_all
    have hl := run_loadCells_list (P := Try.prog) w ⟨b, o, none⟩ (arrF f).toList (fun j v hv => by
      have hj : j < 64 := by
        have := (List.getElem?_eq_some_iff.1 hv).1
        rw [Array.length_toList, arrF_size] at this; exact this
      rw [Array.getElem?_toList, arrF_get f hj] at hv
      cases hv
      rw [Addr.add_lit]
      exact hf j hj)
    rw [Array.length_toList, arrF_size] at hl
    simp only [execOp, hx, Instr.loadAt, Instr.sureAddr, loadVar]
    simp [Sem.run_bind, hagg, sizeOf, typeInfo, h1, h2, hl]) h

/-- A field is stored into the middle of a ground's block. -/
theorem wpList_putFAt {o : Nat} {f : Nat → Nat} {g g' : G} (hg : Blk w B (arrG g) t) (ho : o + 64 ≤ 195) (hc : ∀ i, i < 195 → g'.cell i = if o ≤ i ∧ i < o + 64 then .float .f32 (f (i - o)) else g.cell i)
    (hx : a.eval X = .pointer (some ⟨B, o, none⟩)) (hy : a.eval Y = .agg (arrF f))
    (h : ∀ w', w'.heap.size = w.heap.size → Blk w' B (arrG g') t → w.grownBy w' (some B) → wpList Try.prog ops Q rest (a.put dst undef) w') : wpList Try.prog ops Q (⟨dst, .store 27 X Y, ty, pos, after, none⟩ :: rest) a w :=
  wpList_ranU rfl (by
    obtain ⟨ti, h1, h2⟩ := Option.map_eq_some_iff.1 sizeF
    have hst := run_storeCells_at (P := Try.prog) B o t (arrF f).toList 0 (arrG g) w hg (by rw [Array.length_toList, arrF_size, arrG_size]; omega) (fun v hv => (Array.all_eq_true_iff_forall_mem.1 (arrF_one f)) v (by simpa using hv))
    rw [arrG_splice ho hc] at hst
    simp only [execOp, hx, hy, Instr.storeAt, Instr.sureAddr, storeVar]
    simp [Sem.run_bind, sizeOf, typeInfo, h1, h2, Value.cells, arrF_size, hst])
    (h _ (by simp) (hg.row_same _) ⟨rfl, rfl, rfl, by simp, fun k _ hk => setRow_other w B k _ (fun e => hk (by rw [e]))⟩)

theorem wpList_setG {k : Nat} {v : Value} {T : TypeId} {g g' : G} (hT : (Try.prog.info? T).map (·.size) = some 1) (hg : Blk w B (arrG g) t) (hk : k < 195) (hc : ∀ i, i < 195 → g'.cell i = if i = k then v else g.cell i) (hv : v.oneCell' = true) (hcs : v.cells = #[v])
    (hx : a.eval X = .pointer (some ⟨B, k, none⟩)) (hy : a.eval Y = v)
    (h : ∀ w', w'.heap.size = w.heap.size → Blk w' B (arrG g') t → w.grownBy w' (some B) → wpList Try.prog ops Q rest (a.put dst undef) w') : wpList Try.prog ops Q (⟨dst, .store T X Y, ty, pos, after, none⟩ :: rest) a w :=
  wpList_put1 hT hg (by rw [arrG_size]; exact hk) hx hy hv hcs (by rw [arrG_set1 hk hc]; exact h)
end

set_option maxRecDepth 100000 in
set_option maxHeartbeats 800000 in
theorem toGround_any (g : G) (w : World) :
    Calls Try.prog 86 #[.agg (arrG g)] w fun e w' => e = .returned (.agg (arrG g)) ∧ Below w.heap.size w w' := by
  go_enter Try.func86, Try.ntmps86
  go_wp2_with (with_reducible refine wpList_box rfl ?_)
  intro A wA hA1 hA2 hA3 hA4
  go_wp2_with (first | (with_reducible refine wpList_new newF ?_) | (with_reducible refine wpList_zero (zeroF _) ?_) | (with_reducible refine wpList_new newG ?_) | (with_reducible refine wpList_zero (zeroG _) ?_))
  intro R wR hR1 hR2 hR3 hR4
  go_wp2_with (first | (with_reducible refine wpList_new newF ?_) | (with_reducible refine wpList_zero (zeroF _) ?_) | (with_reducible refine wpList_new newG ?_) | (with_reducible refine wpList_zero (zeroG _) ?_))
  intro B wB hB1 hB2 hB3 hB4
  have HA := GAt.of_blk ((hA3.later hR4).later hB4)
  have HR := hR3.later hB4
  have HBel : Below w.heap.size w wB := (hA4.trans (hR4.mono hA4.size)).trans (hB4.mono (Nat.le_trans hA4.size hR4.size))
  have hwB : w.heap.size ≤ wB.heap.size := HBel.size
  have hwb : w.heap.size ≤ B := by have := hA4.size; omega
  have HK := grown_refl wB (some B)
  have h0 := HA.wide
  go_wp2_with ((with_reducible refine wpList_setG (k := 0) (v := .int .i8 g.wide) (g' := { G0 with wide := g.wide }) size8 hB3 ?_ ?_ ?_ ?_ ?_ ?_ ?_); (exact by omega); (exact fun i _ => cell_setW G0 _ i); rfl; rfl; rfl; rfl)
  intro w1 s1 b1 k1
  have HK1 := grown_trans HK k1
  have HA1 := HA.grown HK1 (by omega)
  have h1 : w1.cell? ⟨A, 1, none⟩ = some (.int .i8 g.high) := HA1.high
  go_wp2_with ((with_reducible refine wpList_setG (k := 1) (v := .int .i8 g.high) (g' := { G0 with wide := g.wide, high := g.high }) size8 b1 ?_ ?_ ?_ ?_ ?_ ?_ ?_); (exact by omega); (exact fun i _ => cell_setHi ({ G0 with wide := g.wide } : G) _ i); rfl; rfl; rfl; rfl)
  intro w2 s2 b2 k2
  have HK2 := grown_trans HK1 k2
  have HA2 := HA.grown HK2 (by omega)
  clear h0 h1
  go_wp2_with ((with_reducible refine wpList_getFAt (T := 26) (b := A) (o := 2) (f := g.c) Try.underlying26 ?_ sizeA (show FAt w2 A 2 g.c from HA2.fc) ?_ ?_); rfl; rfl)
  refine (toField_any g.c w2).mono ?_
  rintro e w3 ⟨rfl, hb3⟩
  have HK3 := grown_trans HK2 (grown_below hb3)
  go_wp2_with ((with_reducible refine wpList_putFAt (o := 2) (f := g.c) (g' := { G0 with wide := g.wide, high := g.high, c := g.c }) (b2.later hb3) ?_ ?_ ?_ ?_ ?_); (exact by omega); (exact fun i _ => cell_setC ({ G0 with wide := g.wide, high := g.high } : G) _ i); rfl; rfl)
  intro w4 s4 b4 k4
  have HK4 := grown_trans HK3 k4
  have HA4 := HA.grown HK4 (by omega)
  go_wp2_with ((with_reducible refine wpList_getFAt (T := 26) (b := A) (o := 66) (f := g.g) Try.underlying26 ?_ sizeA (show FAt w4 A 66 g.g from HA4.fg) ?_ ?_); rfl; rfl)
  refine (toField_any g.g w4).mono ?_
  rintro e w5 ⟨rfl, hb5⟩
  have HK5 := grown_trans HK4 (grown_below hb5)
  go_wp2_with ((with_reducible refine wpList_putFAt (o := 66) (f := g.g) (g' := { G0 with wide := g.wide, high := g.high, c := g.c, g := g.g }) (b4.later hb5) ?_ ?_ ?_ ?_ ?_); (exact by omega); (exact fun i _ => cell_setG ({ G0 with wide := g.wide, high := g.high, c := g.c } : G) _ i); rfl; rfl)
  intro w6 s6 b6 k6
  have HK6 := grown_trans HK5 k6
  have HA6 := HA.grown HK6 (by omega)
  go_wp2_with ((with_reducible refine wpList_getFAt (T := 26) (b := A) (o := 130) (f := g.h) Try.underlying26 ?_ sizeA (show FAt w6 A 130 g.h from HA6.fh) ?_ ?_); rfl; rfl)
  refine (toField_any g.h w6).mono ?_
  rintro e w7 ⟨rfl, hb7⟩
  have HK7 := grown_trans HK6 (grown_below hb7)
  go_wp2_with ((with_reducible refine wpList_putFAt (o := 130) (f := g.h) (g' := { G0 with wide := g.wide, high := g.high, c := g.c, g := g.g, h := g.h }) (b6.later hb7) ?_ ?_ ?_ ?_ ?_); (exact by omega); (exact fun i _ => cell_setHs ({ G0 with wide := g.wide, high := g.high, c := g.c, g := g.g } : G) _ i); rfl; rfl)
  intro w8 s8 b8 k8
  have HK8 := grown_trans HK7 k8
  have HA8 := HA.grown HK8 (by omega)
  have h9 : w8.cell? ⟨A, 194, none⟩ = some (.int .u64 g.fixed) := HA8.fixed
  go_wp2_with ((with_reducible refine wpList_setG (k := 194) (v := .int .u64 g.fixed) (g' := g) sizeU b8 ?_ ?_ ?_ ?_ ?_ ?_ ?_); (exact by omega); (exact fun i hi => cell_setFx ({ G0 with wide := g.wide, high := g.high, c := g.c, g := g.g, h := g.h } : G) _ hi); rfl; rfl; rfl; rfl)
  intro w9 s9 b9 k9
  have HK9 := grown_trans HK8 k9
  have HR9 := HR.grown HK9 (by omega)
  clear h9
  go_wp2_with (first | ((with_reducible refine wpList_getG b9 ?_ ?_); rfl) | ((with_reducible refine wpList_putG (g := g) HR9 ?_ ?_ ?_); rfl; rfl))
  intro w10 s10 b10 k10
  go_wp2_with fail
  refine ret_cell1 rfl rfl (loadG b10) rfl ⟨rfl, ?_⟩
  exact below_grown (below_grown HBel HK9 hwB hwb) k10 (Nat.le_trans hwB HK9.size) (by omega)

theorem sizeLG : (Try.prog.info? 91).map (·.size) = some 195 := by kernel_rfl
theorem wpList_getL {ops : Array Oper} {Q : Exit → Act → World → Prop} {rest : List Oper} {a : Act} {w : World} {dst : Option Tmp} {ty : TypeId} {X : Operand} {pos : String} {after : Array Edge} {B : Nat} {t : TypeId} {g : G}
    (hg : Blk w B (arrG g) t) (hx : a.eval X = .pointer (some ⟨B, 0, none⟩))
    (h : wpList Try.prog ops Q rest (a.put dst (.agg (arrG g))) w) : wpList Try.prog ops Q (⟨dst, .load 91 X, ty, pos, after, none⟩ :: rest) a w :=
  wpList_get hg Try.underlying91 rfl (by rw [arrG_size]; exact sizeLG) hx h
end Go.Proofs.Ytfcphfdfpjmgiaa

namespace Go.Proofs.Ytfcphfdfpjmgiaa
open Go.RowKit

set_option maxHeartbeats 400000 in
theorem l01Joint_any (a b : Nat) (w : World) :
    Calls Try.prog 194 #[.float .f32 a, .float .f32 b] w (RetF (joint (fb a) (fb b)) w) := by
  have hgt := order_gt
  go_enter Try.func194, Try.ntmps194
  go_wp2_with (refine wpList_arith _ _ rfl rfl rfl ?_; intro r n hr)
  all_goals
    go_ret
    refine ⟨_, rfl, ?_, by repeat (first | exact Below.refl _ _ | refine below_drawn ?_ _)⟩
    simp only [Is, fop, fb0, fb2, Bool.not_eq_true', Bool.not_eq_false'] at *
    simp [joint, *]

set_option maxHeartbeats 800000 in
theorem l01Beside_any (b o k s : Nat) (g : G) (w : World) (hk : k < 64) (hs : s < 4) (hr : g.Rng) (hg : GAt w b o g) :
    Calls Try.prog 159 #[.pointer (some ⟨b, o, none⟩), .int .i64 k, .int .i64 s] w fun e w' => e = .returned (.int .i64 (beside g.wide g.high k s)) ∧ w = w' := by
  have h0 := hg.wide
  have h1 := hg.high
  obtain ⟨⟨r0, r1⟩, ⟨r2, r3⟩⟩ := hr
  clear hg
  obtain rfl | rfl | rfl | rfl : s = 0 ∨ s = 1 ∨ s = 2 ∨ s = 3 := by omega
  all_goals
    go_enter Try.func159, Try.ntmps159
    go_wp2_with (go_at_call 96; refine (l00In_any _ _ _ _).mono ?_; rintro e w' ⟨rfl, rfl⟩)
    all_goals
      go_ret
      refine ⟨ret_int ?_, rfl⟩
      simp only [beside, besideXY]
      simp at *
      omega

/-- A float and a whole number are handed back. -/
def RetFI (x : F) (z : Int) (w : World) (e : Ending) (w' : World) : Prop := ∃ r, e = .returned (.tuple #[.float .f32 r, .int .i64 z]) ∧ Is r x ∧ Below w.heap.size w w'

def between (m : M) (k s : Nat) : F := if beside m.wide m.high k s < 0 then some 0 else joint (m.c k) (m.c (beside m.wide m.high k s).toNat)

set_option maxRecDepth 100000 in
set_option maxHeartbeats 400000 in
theorem l01Between_any (b o k s : Nat) (g : G) (w : World) (hk : k < 64) (hs : s < 4) (hr : g.Rng) (hW : g.wide ≤ 8) (hH : g.high ≤ 8) (hg : GAt w b o g) :
    Calls Try.prog 177 #[.pointer (some ⟨b, o, none⟩), .int .i64 k, .int .i64 s] w (RetFI (between g.m k s) (beside g.wide g.high k s) w) := by
  have hlt := beside_lt g.wide g.high k s hk hW hH
  by_cases hn : beside g.wide g.high k s < 0
  · have hm1 : beside g.wide g.high k s = -1 := by omega
    have HM := Lib.hid hm1
    have HN := Lib.hid hn
    clear hn hlt hm1
    go_enter Try.func177, Try.ntmps177
    go_wp2_with fail
    refine (l01Beside_any b o k s g _ hk hs hr hg).mono ?_
    rw [HM.out]
    rintro e w' ⟨rfl, rfl⟩
    go_wp2_with fail
    go_ret2
    exact ⟨0, by rw [HM.out]; rfl, by simp [between, G.m, HM.out, Is, fb0], Below.refl _ _⟩
  · obtain ⟨m, hm⟩ : ∃ m : Nat, beside g.wide g.high k s = m := ⟨(beside g.wide g.high k s).toNat, by omega⟩
    have hml : m < 64 := by omega
    have HM := Lib.hid hm
    have k1 : (k : Int) < 64 := by omega
    have m1 : (m : Int) < 64 := by omega
    have c1 := fun x => ext_cell w x (hg.c hk)
    have c2 := fun x => ext_cell w x (hg.c hml)
    have cb := (l01Beside_any b o k s g w hk hs hr hg)
    rw [hm] at cb
    have CB := Lib.hid cb
    rw [hm]
    clear cb hn hlt hm hg hr hW hH hs
    go_enter Try.func177, Try.ntmps177
    go_wp2_with fail
    refine CB.out.mono ?_
    rintro e w' ⟨rfl, rfl⟩
    go_wp2_with fail
    refine wp_soft (SF (joint (fb (g.c k)) (fb (g.c m)))) (by kernel_rfl) (by kernel_rfl) ?_
    repeat (first | (refine soft_step (fun K hK => ?_); go_simp; (try go_bits); refine hK _ ?_; clear hK K) | (refine soft_step (fun K hK => ?_); go_simp; refine ⟨_, _, ⟨rfl, rfl⟩, fun x => (l01Joint_any _ _ _).mono ?_, ?_⟩; (rintro e w1 ⟨r, he, hr, hb⟩; exact ⟨_, he, ⟨r, rfl, hr⟩, hb⟩); rintro v ⟨r, rfl, hr⟩; refine hK _ ?_; clear hK K))
    refine soft_nil ?_
    rintro w1 hw1
    have HB := Lib.hid hw1.below
    clear hw1
    go_wp2_with fail
    go_ret2
    refine ⟨_, rfl, ?_, HB.out⟩
    simp only [Is] at *
    have hk2 := fm_of (f := g.c) hk
    have hk4 := fm_of (f := g.c) hml
    have hnn : ¬ ((m : Int) < 0) := by omega
    simp [between, G.m, HM.out, *]

set_option maxRecDepth 100000 in
set_option maxHeartbeats 400000 in
theorem l01Flow_any (b o k s : Nat) (g : G) (w : World) (hk : k < 64) (hs : s < 4) (hr : g.Rng) (hW : g.wide ≤ 8) (hH : g.high ≤ 8) (hg : GAt w b o g) :
    Calls Try.prog 165 #[.pointer (some ⟨b, o, none⟩), .int .i64 k, .int .i64 s] w (RetF (flow g.m k s) w) := by
  have hlt := beside_lt g.wide g.high k s hk hW hH
  by_cases hn : beside g.wide g.high k s < 0
  · have hm1 : beside g.wide g.high k s = -1 := by omega
    have HM := Lib.hid hm1
    have HN := Lib.hid hn
    clear hn hlt hm1
    go_enter Try.func165, Try.ntmps165
    go_wp2_with fail
    refine (l01Between_any b o k s g _ hk hs hr hW hH hg).mono ?_
    rw [HM.out]
    rintro e w1 ⟨r, rfl, hrr, hb1⟩
    have HB1 := Lib.hid hb1
    clear hb1
    go_wp2_with fail
    go_ret
    exact ⟨0, rfl, by simp [flow, G.m, HM.out, Is, fb0], HB1.out⟩
  · obtain ⟨m, hm⟩ : ∃ m : Nat, beside g.wide g.high k s = m := ⟨(beside g.wide g.high k s).toNat, by omega⟩
    have hml : m < 64 := by omega
    have HM := Lib.hid hm
    have k1 : (k : Int) < 64 := by omega
    have m1 : (m : Int) < 64 := by omega
    have cb := (l01Between_any b o k s g w hk hs hr hW hH hg)
    rw [hm] at cb
    have CB := Lib.hid cb
    have HG := Lib.hid hg
    clear cb hn hlt hm hg hr hW hH hs
    go_enter Try.func165, Try.ntmps165
    go_wp2_with fail
    refine CB.out.mono ?_
    rintro e w0 ⟨r0, rfl, hr0, hb0⟩
    have c3 := fun x => ext_cell w0 x ((HG.out.below hb0).h hk)
    have c4 := fun x => ext_cell w0 x ((HG.out.below hb0).h hml)
    have HB0 := Lib.hid hb0
    clear hb0
    go_wp2_with fail
    refine wp_soft (SF none) (by kernel_rfl) (by kernel_rfl) ?_
    repeat (first | (refine soft_arith (fun _ n h => h.drewN n) _ _ rfl rfl rfl ?_; intro r hr) | (refine soft_step (fun K hK => ?_); go_simp; (try go_bits); refine hK _ ?_; clear hK K))
    refine soft_nil ?_
    rintro w1 hw1
    have HB := Lib.hid (HB0.out.trans (hw1.below.mono HB0.out.size))
    clear hw1
    go_wp2_with fail
    go_ret
    refine ⟨_, rfl, ?_, HB.out⟩
    have hk2 := fm_of (f := g.c) hk
    have hk3 := fm_of (f := g.h) hk
    have hk4 := fm_of (f := g.c) hml
    have hk5 := fm_of (f := g.h) hml
    simp only [Is, fop, between, G.m] at *
    have hnn : ¬ ((m : Int) < 0) := by omega
    simp [flow, HM.out, *]

set_option maxHeartbeats 400000 in
theorem l01Finite_any (a : Nat) (x : F) (w : World) (ha : Is a x) :
    Calls Try.prog 141 #[.float .f32 a] w (RetB (fin x) w) := by
  have heq := order_eq
  have HA := Lib.hid ha
  clear ha
  go_enter Try.func141, Try.ntmps141
  go_wp2_with (refine wpList_arith _ _ rfl rfl rfl ?_; intro r n hr)
  go_ret
  refine ⟨ret_bool ?_, below_drawn (Below.refl _ _) _⟩
  have := hr.out
  rw [this, fop, HA.out.out, fb0]
  rfl

set_option maxRecDepth 100000 in
set_option maxHeartbeats 400000 in
theorem l01Balance_any (b o k : Nat) (g : G) (w : World) (hk : k < 64) (hr : g.Rng) (hW : g.wide ≤ 8) (hH : g.high ≤ 8) (hg : GAt w b o g) :
    Calls Try.prog 193 #[.pointer (some ⟨b, o, none⟩), .int .i64 k] w (RetF (balTo g.m k 4) w) := by
  have c1 := hg.g hk
  have k1 : (k : Int) < 64 := by omega
  go_enter Try.func193, Try.ntmps193
  go_wp2_with fail
  go_loopw [5, 6] (fun v5 v13 wr => BalRel g k w v5 v13 wr) (fun _ v13 _ => 4 - (intOf v13).toNat)
  case atStart => exact ⟨0, g.g k, by omega, rfl, rfl, (fm_of hk).symm, Below.refl _ _⟩
  case round =>
    obtain ⟨s, r, hs, rfl, rfl, hr, hB⟩ := hrel
    have HG := Lib.hid (hg.below hB)
    have HB := Lib.hid hB
    clear hB hg
    by_cases hlt : s < 4
    · by_cases hb : 0 ≤ beside g.wide g.high k s
      · go_wp2_with (first | (go_at_call 159; refine (l01Beside_any b o k s g _ hk hlt (by assumption) HG.out).mono ?_; rintro e w' ⟨rfl, rfl⟩) | (go_at_call 165; refine (l01Flow_any b o k s g _ hk hlt (by assumption) (by assumption) (by assumption) HG.out).mono ?_; rintro e w1 ⟨r1, rfl, hr1, hb1⟩; have HB1 := Lib.hid hb1; clear hb1) | (refine wpList_arith _ _ rfl rfl rfl ?_; intro r2 n2 hr2))
        go_roundw
        case rel => exact ⟨s + 1, r2, by omega, by go_num, rfl, by rw [balTo_yes (g := g.m) hb]; exact hr2.op hr hr1, below_drawn (HB.out.trans (HB1.out.mono HB.out.size)) _⟩
        case measure => simp [intOf]; omega
      · go_wp2_with (first | (go_at_call 159; refine (l01Beside_any b o k s g _ hk hlt (by assumption) HG.out).mono ?_; rintro e w' ⟨rfl, rfl⟩))
        go_roundw
        case rel => exact ⟨s + 1, r, by omega, by go_num, rfl, by rw [balTo_no (g := g.m) (by show ¬ 0 ≤ beside g.wide g.high k s; omega)]; exact hr, HB.out⟩
        case measure => simp [intOf]; omega
    · go_wp2
      obtain rfl : s = 4 := by omega
      go_ret
      exact ⟨r, rfl, hr, HB.out⟩
end Go.Proofs.Ytfcphfdfpjmgiaa

namespace Go.Proofs.Ytfcphfdfpjmgiaa
open Go.RowKit

def RetBalsS (m : M) (w : World) (e : Ending) (w' : World) : Prop := ∃ f, e = .returned (.tuple #[.agg (arrF f), .bool (balOk m (cellsM m))]) ∧ (balOk m (cellsM m) = true → fm f = balF m (cellsM m)) ∧ Below w.heap.size w w'

def BalsRelS (m : M) (w1 : World) (B : Nat) (v5 : Value) (wr : World) : Prop :=
  ∃ (k : Nat) (f : Nat → Nat), k ≤ 64 ∧ v5 = .int .i64 k ∧ balOk m (cellsTo m.wide m.high k) = true ∧ fm f = balF m (cellsTo m.wide m.high k) ∧ Blk wr B (arrF f) 27 ∧ w1.grownBy wr (some B)

theorem balF_snoc {m : M} {l : List Nat} {c : Nat} (hc : c < 64) : balF m (l ++ [c]) = upd (balF m l) c (balTo m c 4) := by
  funext i
  unfold balF upd
  by_cases e : i = c
  · subst e; simp [hc]
  · simp [e]
theorem balOk_snoc {m : M} {l : List Nat} {c : Nat} : balOk m (l ++ [c]) = (balOk m l && fin (balTo m c 4)) := by simp [balOk, List.all_append]
theorem balOk_bad {m : M} {k : Nat} (hk : k < 64) (hh : hasB m.wide m.high k = true) (hf : fin (balTo m k 4) = false) : balOk m (cellsM m) = false := by
  unfold balOk cellsM cellsTo
  rw [List.all_eq_false]
  exact ⟨k, List.mem_filter.2 ⟨List.mem_range.2 hk, hh⟩, by rw [hf]; simp⟩

set_option maxRecDepth 100000 in
set_option maxHeartbeats 800000 in
theorem l01Balances_any (b o : Nat) (g : G) (w : World) (hr : g.Rng) (hW : g.wide ≤ 8) (hH : g.high ≤ 8) (hg : GAt w b o g) :
    Calls Try.prog 163 #[.pointer (some ⟨b, o, none⟩)] w (RetBalsS g.m w) := by
  have hbl : b < w.heap.size := block_lt_of_cell (hg 0 (by omega))
  go_enter Try.func163, Try.ntmps163
  go_wp2_with (first | (with_reducible refine wpList_new newF ?_) | (with_reducible refine wpList_zero (zeroF _) ?_) | (with_reducible refine wpList_new newG ?_) | (with_reducible refine wpList_zero (zeroG _) ?_))
  intro A wA hA1 hA2 hA3 hA4
  go_wp2_with (first | (with_reducible refine wpList_new newF ?_) | (with_reducible refine wpList_zero (zeroF _) ?_) | (with_reducible refine wpList_new newG ?_) | (with_reducible refine wpList_zero (zeroG _) ?_))
  intro B wB hB1 hB2 hB3 hB4
  go_wp2_with (refine wpList_putF hB3 rfl rfl ?_)
  intro wC hC1 hC2 hC3
  have hBw : w.heap.size < B := by have := hA4.size; omega
  have hg1 := Lib.hid (((hg.below hA4).below hB4).grown hC3 (by omega))
  have HC2 := Lib.hid hC2
  have hbelow : Below w.heap.size w wC := below_grown (hA4.trans (hB4.mono hA4.size)) hC3 (Nat.le_trans hA4.size hB4.size) (by omega)
  have HBW := Lib.hid hbelow
  have HA3 := Lib.hid ((hA3.later hB4).grown hC3 (by omega))
  have HA1 : A < B := by omega
  clear hg hA3 hA4 hB3 hB4 hC2 hC3 hbelow
  go_wp2_with fail
  go_loopw [5] (fun v5 wr => BalsRelS g.m wC B v5 wr) (fun v5 _ => 64 - (intOf v5).toNat)
  case atStart => exact ⟨0, _, by omega, rfl, rfl, balF_nil _, HC2.out, grown_refl _ _⟩
  case round =>
    obtain ⟨k, f, hk, rfl, hok, hf, hB, hgr⟩ := hrel
    have HOK := Lib.hid hok
    have HF := Lib.hid hf
    have HG := Lib.hid (hg1.out.grown hgr (by omega))
    have HB := Lib.hid hB
    have HGR := Lib.hid hgr
    have HAr := Lib.hid (HA3.out.grown hgr (by omega))
    clear hok hf hB hgr
    by_cases hlt : k < 64
    · have k1 : (k : Int) < 64 := by omega
      cases hh : hasB g.wide g.high k
      · have HH := Lib.hid hh
        clear hh
        go_wp2_with (go_at_call 111; refine (l01Is_any b o k g _ hlt hr HG.out).mono ?_; rw [HH.out]; rintro e w' ⟨rfl, rfl⟩)
        go_roundw
        case rel => exact ⟨k + 1, f, by omega, by go_num, by rw [cellsTo_no (W := (G.m g).wide) (H := (G.m g).high) HH.out]; exact HOK.out, by rw [cellsTo_no (W := (G.m g).wide) (H := (G.m g).high) HH.out]; exact HF.out, HB.out, HGR.out⟩
        case measure => simp [intOf]; omega
      · have HH := Lib.hid hh
        clear hh
        go_wp2_with (go_at_call 111; refine (l01Is_any b o k g _ hlt hr HG.out).mono ?_; rw [HH.out]; rintro e w' ⟨rfl, rfl⟩)
        refine (l01Balance_any b o k g _ hlt hr hW hH HG.out).mono ?_
        rintro e w2 ⟨r, rfl, hrr, hb2⟩
        have HB2 := HB.out.later hb2
        have HRR := Lib.hid hrr
        clear hrr
        go_wp2_with (refine wpList_setF HB2 hlt rfl rfl ?_)
        intro w3 h31 h32 h33
        have hc3 : w3.cell? ⟨B, k, none⟩ = some (.float .f32 r) := h32.at (by rw [arrF_get _ hlt]; simp [upd])
        have H32 := Lib.hid h32
        have HG3 := Lib.hid ((grown_trans (grown_trans HGR.out (grown_below hb2)) h33 : wC.grownBy w3 (some B)))
        have HA4 := Lib.hid ((HAr.out.later hb2).grown h33 (by omega))
        clear h32 hb2 HB2 h33
        cases hfi : fin (balTo g.m k 4)
        · have HFI := Lib.hid hfi
          clear hfi
          go_wp2_with fail
          refine (l01Finite_any r _ w3 HRR.out).mono ?_
          rw [HFI.out]
          rintro e w4 ⟨rfl, hb4⟩
          have HA5 := HA4.out.later hb4
          have HG4 := Lib.hid (grown_trans HG3.out (grown_below hb4))
          clear hb4
          go_wp2_with (first | (with_reducible refine wpList_new newF ?_) | (with_reducible refine wpList_zero (zeroF _) ?_) | (with_reducible refine wpList_new newG ?_) | (with_reducible refine wpList_zero (zeroG _) ?_) | ((with_reducible refine wpList_putF (f := fun _ => 0) HA5 ?_ ?_ ?_); rfl; rfl))
          intro w5 h51 h52 h53
          go_wp2_with fail
          refine ret_cell2 rfl rfl (loadF h52) rfl ⟨fun _ => 0, ?_, ?_, ?_⟩
          · rw [balOk_bad hlt HH.out HFI.out]; rfl
          · rw [balOk_bad hlt HH.out HFI.out]; exact fun h => by cases h
          · exact below_grown (below_grown HBW.out HG4.out HBW.out.size (by omega)) h53 (by have := HBW.out.size; have := HG4.out.size; omega) (by omega)
        · have HFI := Lib.hid hfi
          clear hfi
          go_wp2_with fail
          refine (l01Finite_any r _ w3 HRR.out).mono ?_
          rw [HFI.out]
          rintro e w4 ⟨rfl, hb4⟩
          have HB4 := Lib.hid hb4
          clear hb4
          go_wp2_with fail
          go_roundw
          case rel => exact ⟨k + 1, upd f k r, by omega, by go_num, by rw [cellsTo_yes (W := (G.m g).wide) (H := (G.m g).high) HH.out, balOk_snoc, HOK.out, HFI.out]; rfl, by rw [cellsTo_yes (W := (G.m g).wide) (H := (G.m g).high) HH.out, balF_snoc hlt, fm_upd hlt, HF.out, HRR.out.out], H32.out.later HB4.out, grown_trans HG3.out (grown_below HB4.out)⟩
          case measure => simp [intOf]; omega
    · have hk' : k = 64 := by omega
      have HK := Lib.hid hk'
      clear hk'
      go_wp2_with (first | ((with_reducible refine wpList_getF HB.out ?_ ?_); rfl) | ((with_reducible refine wpList_putF (f := f) HAr.out ?_ ?_ ?_); rfl; rfl))
      intro w3 h31 h32 h33
      go_wp2_with fail
      have e1 : cellsTo (G.m g).wide (G.m g).high k = cellsM g.m := by rw [HK.out]; rfl
      refine ret_cell2 rfl rfl (loadF h32) rfl ⟨f, ?_, ?_, ?_⟩
      · rw [← e1, HOK.out]; rfl
      · exact fun _ => by rw [HF.out, e1]
      · exact below_grown (below_grown HBW.out HGR.out HBW.out.size (by omega)) h33 (by have := HBW.out.size; have := HGR.out.size; omega) (by omega)

def boC (m : M) : Int := if okI m then (if balOk m (cellsM m) then 0 else 4) else 1
def boF (m : M) : Nat → F := if okI m && balOk m (cellsM m) then balF m (cellsM m) else fm (fun _ => 0)
/-- A field and a code are handed back. -/
def RetFC (x : Nat → F) (z : Int) (w : World) (e : Ending) (w' : World) : Prop := ∃ f, e = .returned (.tuple #[.agg (arrF f), .int .i64 z]) ∧ fm f = x ∧ Below w.heap.size w w'

set_option maxRecDepth 100000 in
set_option maxHeartbeats 800000 in
theorem BalancesOf_any (g : G) (w : World) (hr : g.Rng) :
    Calls Try.prog 74 #[.agg (arrG g)] w (RetFC (boF g.m) (boC g.m) w) := by
  cases hok : okI g.m
  · have HOK := Lib.hid hok
    clear hok
    go_enter Try.func74, Try.ntmps74
    go_wp2_with (with_reducible refine wpList_box rfl ?_)
    intro B w1 hB1 hB2 hB3 hB4
    go_wp2_with (first | (with_reducible refine wpList_new newF ?_) | (with_reducible refine wpList_zero (zeroF _) ?_) | (with_reducible refine wpList_new newG ?_) | (with_reducible refine wpList_zero (zeroG _) ?_))
    intro A w2 hA1 hA2 hA3 hA4
    go_wp2_with ((with_reducible refine wpList_getG (hB3.later hA4) ?_ ?_); rfl)
    refine (ValidGround_any g w2 hr).mono ?_
    rw [HOK.out]
    rintro e w3 ⟨rfl, hb3⟩
    have HA3 := hA3.later hb3
    have HB := Lib.hid ((hB4.trans (hA4.mono hB4.size)).trans (hb3.mono (Nat.le_trans hB4.size hA4.size)))
    clear hB3 hB4 hA3 hA4 hb3
    go_wp2_with (first | (with_reducible refine wpList_new newF ?_) | (with_reducible refine wpList_zero (zeroF _) ?_) | (with_reducible refine wpList_new newG ?_) | (with_reducible refine wpList_zero (zeroG _) ?_) | ((with_reducible refine wpList_putF (f := fun _ => 0) HA3 ?_ ?_ ?_); rfl; rfl))
    intro w5 h51 h52 h53
    go_wp2_with fail
    refine ret_cell2 rfl rfl (loadF h52) rfl ⟨fun _ => 0, ?_, ?_, ?_⟩
    · unfold boC; rw [HOK.out]; rfl
    · unfold boF; rw [HOK.out]; rfl
    · exact below_grown HB.out h53 HB.out.size (by omega)
  · have HOK := Lib.hid hok
    have hsz := sized_of hok
    clear hok
    go_enter Try.func74, Try.ntmps74
    go_wp2_with (with_reducible refine wpList_box rfl ?_)
    intro B w1 hB1 hB2 hB3 hB4
    go_wp2_with (first | (with_reducible refine wpList_new newF ?_) | (with_reducible refine wpList_zero (zeroF _) ?_) | (with_reducible refine wpList_new newG ?_) | (with_reducible refine wpList_zero (zeroG _) ?_))
    intro A w2 hA1 hA2 hA3 hA4
    go_wp2_with ((with_reducible refine wpList_getG (hB3.later hA4) ?_ ?_); rfl)
    refine (ValidGround_any g w2 hr).mono ?_
    rw [HOK.out]
    rintro e w3 ⟨rfl, hb3⟩
    have HA3 := hA3.later hb3
    have HG := GAt.of_blk ((hB3.later hA4).later hb3)
    have HB := Lib.hid ((hB4.trans (hA4.mono hB4.size)).trans (hb3.mono (Nat.le_trans hB4.size hA4.size)))
    clear hB3 hB4 hA3 hA4 hb3
    go_wp2_with fail
    refine (balances_any B 0 g w3 hr hsz.1.2 hsz.2.2 HG).mono ?_
    rintro e w4 ⟨f, rfl, hf, hb4⟩
    have HF := Lib.hid hf
    have HA4 := Lib.hid (HA3.later hb4)
    have HB4 := Lib.hid (HB.out.trans (hb4.mono HB.out.size))
    have hAl : A < w4.heap.size := HA4.out.lt
    clear hf HG HA3 hb4
    cases hbo : balOk g.m (cellsM g.m)
    · have HBO := Lib.hid hbo
      clear hbo
      go_wp2_with (first | (with_reducible refine wpList_new newF ?_) | (with_reducible refine wpList_zero (zeroF _) ?_) | (with_reducible refine wpList_new newG ?_) | (with_reducible refine wpList_zero (zeroG _) ?_))
      intro C w5 hC1 hC2 hC3 hC4
      have HA5 := HA4.out.later hC4
      go_wp2_with ((with_reducible refine wpList_putF (f := f) hC3 ?_ ?_ ?_); rfl; rfl)
      intro w6 h61 h62 h63
      have HA6 := HA5.grown h63 (by omega)
      have HB6 := Lib.hid (below_grown (HB4.out.trans (hC4.mono HB4.out.size)) h63 (Nat.le_trans HB4.out.size hC4.size) (by have := HB4.out.size; omega))
      clear hC3 hC4 h63 HA5 h62
      go_wp2_with (first | (with_reducible refine wpList_new newF ?_) | (with_reducible refine wpList_zero (zeroF _) ?_) | (with_reducible refine wpList_new newG ?_) | (with_reducible refine wpList_zero (zeroG _) ?_) | ((with_reducible refine wpList_putF (f := fun _ => 0) HA6 ?_ ?_ ?_); rfl; rfl))
      intro w7 h71 h72 h73
      go_wp2_with fail
      refine ret_cell2 rfl rfl (loadF h72) rfl ⟨fun _ => 0, ?_, ?_, ?_⟩
      · unfold boC; rw [HOK.out, HBO.out]; rfl
      · unfold boF; rw [HOK.out, HBO.out]; rfl
      · exact below_grown HB6.out h73 HB6.out.size (by omega)
    · have HBO := Lib.hid hbo
      clear hbo
      go_wp2_with (first | (with_reducible refine wpList_new newF ?_) | (with_reducible refine wpList_zero (zeroF _) ?_) | (with_reducible refine wpList_new newG ?_) | (with_reducible refine wpList_zero (zeroG _) ?_))
      intro C w5 hC1 hC2 hC3 hC4
      have HA5 := HA4.out.later hC4
      go_wp2_with ((with_reducible refine wpList_putF (f := f) hC3 ?_ ?_ ?_); rfl; rfl)
      intro w6 h61 h62 h63
      have HA6 := HA5.grown h63 (by omega)
      have HB6 := Lib.hid (below_grown (HB4.out.trans (hC4.mono HB4.out.size)) h63 (Nat.le_trans HB4.out.size hC4.size) (by have := HB4.out.size; omega))
      clear hC3 hC4 h63 HA5
      go_wp2_with (first | ((with_reducible refine wpList_getF h62 ?_ ?_); rfl) | ((with_reducible refine wpList_putF (f := f) HA6 ?_ ?_ ?_); rfl; rfl))
      intro w7 h71 h72 h73
      go_wp2_with fail
      refine ret_cell2 rfl rfl (loadF h72) rfl ⟨f, ?_, ?_, ?_⟩
      · unfold boC; rw [HOK.out, HBO.out]; rfl
      · unfold boF; rw [HOK.out, HBO.out]; exact HF.out
      · exact below_grown HB6.out h73 HB6.out.size (by omega)

set_option maxRecDepth 100000 in
set_option maxHeartbeats 800000 in
theorem specBalancesOf_any (g : G) (w : World) (hr : g.Rng) :
    Calls Try.prog 75 #[.agg (arrG g)] w (RetFC (boF g.m) (boC g.m) w) := by
  cases hok : okI g.m
  · have HOK := Lib.hid hok
    clear hok
    go_enter Try.func75, Try.ntmps75
    go_wp2_with (with_reducible refine wpList_box rfl ?_)
    intro B w1 hB1 hB2 hB3 hB4
    go_wp2_with (first | (with_reducible refine wpList_new newF ?_) | (with_reducible refine wpList_zero (zeroF _) ?_) | (with_reducible refine wpList_new newG ?_) | (with_reducible refine wpList_zero (zeroG _) ?_))
    intro A w2 hA1 hA2 hA3 hA4
    have HG := GAt.of_blk (hB3.later hA4)
    go_wp2_with fail
    refine (l01Ok_any B 0 g w2 hr HG).mono ?_
    rw [HOK.out]
    rintro e w3 ⟨rfl, hb3⟩
    have HA3 := hA3.later hb3
    have HB := Lib.hid ((hB4.trans (hA4.mono hB4.size)).trans (hb3.mono (Nat.le_trans hB4.size hA4.size)))
    clear hB3 hB4 hA3 hA4 hb3 HG
    go_wp2_with (first | (with_reducible refine wpList_new newF ?_) | (with_reducible refine wpList_zero (zeroF _) ?_) | (with_reducible refine wpList_new newG ?_) | (with_reducible refine wpList_zero (zeroG _) ?_) | ((with_reducible refine wpList_putF (f := fun _ => 0) HA3 ?_ ?_ ?_); rfl; rfl))
    intro w5 h51 h52 h53
    go_wp2_with fail
    refine ret_cell2 rfl rfl (loadF h52) rfl ⟨fun _ => 0, ?_, ?_, ?_⟩
    · unfold boC; rw [HOK.out]; rfl
    · unfold boF; rw [HOK.out]; rfl
    · exact below_grown HB.out h53 HB.out.size (by omega)
  · have HOK := Lib.hid hok
    have hsz := sized_of hok
    clear hok
    go_enter Try.func75, Try.ntmps75
    go_wp2_with (with_reducible refine wpList_box rfl ?_)
    intro B w1 hB1 hB2 hB3 hB4
    go_wp2_with (first | (with_reducible refine wpList_new newF ?_) | (with_reducible refine wpList_zero (zeroF _) ?_) | (with_reducible refine wpList_new newG ?_) | (with_reducible refine wpList_zero (zeroG _) ?_))
    intro A w2 hA1 hA2 hA3 hA4
    have HG0 := GAt.of_blk (hB3.later hA4)
    go_wp2_with fail
    refine (l01Ok_any B 0 g w2 hr HG0).mono ?_
    rw [HOK.out]
    rintro e w3 ⟨rfl, hb3⟩
    have HA3 := hA3.later hb3
    have HG := HG0.below hb3
    have HB := Lib.hid ((hB4.trans (hA4.mono hB4.size)).trans (hb3.mono (Nat.le_trans hB4.size hA4.size)))
    clear hB3 hB4 hA3 hA4 hb3 HG0
    go_wp2_with fail
    refine (l01Balances_any B 0 g w3 hr hsz.1.2 hsz.2.2 HG).mono ?_
    rintro e w4 ⟨f, rfl, hf, hb4⟩
    have HF := Lib.hid hf
    have HA4 := Lib.hid (HA3.later hb4)
    have HB4 := Lib.hid (HB.out.trans (hb4.mono HB.out.size))
    have hAl : A < w4.heap.size := HA4.out.lt
    clear hf HG HA3 hb4
    cases hbo : balOk g.m (cellsM g.m)
    · have HBO := Lib.hid hbo
      clear hbo
      go_wp2_with (first | (with_reducible refine wpList_new newF ?_) | (with_reducible refine wpList_zero (zeroF _) ?_) | (with_reducible refine wpList_new newG ?_) | (with_reducible refine wpList_zero (zeroG _) ?_))
      intro C w5 hC1 hC2 hC3 hC4
      have HA5 := HA4.out.later hC4
      go_wp2_with ((with_reducible refine wpList_putF (f := f) hC3 ?_ ?_ ?_); rfl; rfl)
      intro w6 h61 h62 h63
      have HA6 := HA5.grown h63 (by omega)
      have HB6 := Lib.hid (below_grown (HB4.out.trans (hC4.mono HB4.out.size)) h63 (Nat.le_trans HB4.out.size hC4.size) (by have := HB4.out.size; omega))
      clear hC3 hC4 h63 HA5 h62
      go_wp2_with (first | (with_reducible refine wpList_new newF ?_) | (with_reducible refine wpList_zero (zeroF _) ?_) | (with_reducible refine wpList_new newG ?_) | (with_reducible refine wpList_zero (zeroG _) ?_) | ((with_reducible refine wpList_putF (f := fun _ => 0) HA6 ?_ ?_ ?_); rfl; rfl))
      intro w7 h71 h72 h73
      go_wp2_with fail
      refine ret_cell2 rfl rfl (loadF h72) rfl ⟨fun _ => 0, ?_, ?_, ?_⟩
      · unfold boC; rw [HOK.out, HBO.out]; rfl
      · unfold boF; rw [HOK.out, HBO.out]; rfl
      · exact below_grown HB6.out h73 HB6.out.size (by omega)
    · have HBO := Lib.hid hbo
      have HF2 := Lib.hid (HF.out hbo)
      clear hbo
      go_wp2_with (first | (with_reducible refine wpList_new newF ?_) | (with_reducible refine wpList_zero (zeroF _) ?_) | (with_reducible refine wpList_new newG ?_) | (with_reducible refine wpList_zero (zeroG _) ?_))
      intro C w5 hC1 hC2 hC3 hC4
      have HA5 := HA4.out.later hC4
      go_wp2_with ((with_reducible refine wpList_putF (f := f) hC3 ?_ ?_ ?_); rfl; rfl)
      intro w6 h61 h62 h63
      have HA6 := HA5.grown h63 (by omega)
      have HB6 := Lib.hid (below_grown (HB4.out.trans (hC4.mono HB4.out.size)) h63 (Nat.le_trans HB4.out.size hC4.size) (by have := HB4.out.size; omega))
      clear hC3 hC4 h63 HA5
      go_wp2_with (first | ((with_reducible refine wpList_getF h62 ?_ ?_); rfl) | ((with_reducible refine wpList_putF (f := f) HA6 ?_ ?_ ?_); rfl; rfl))
      intro w7 h71 h72 h73
      go_wp2_with fail
      refine ret_cell2 rfl rfl (loadF h72) rfl ⟨f, ?_, ?_, ?_⟩
      · unfold boC; rw [HOK.out, HBO.out]; rfl
      · unfold boF; rw [HOK.out, HBO.out]; exact HF2.out
      · exact below_grown HB6.out h73 HB6.out.size (by omega)
end Go.Proofs.Ytfcphfdfpjmgiaa

namespace Go.Proofs.Ytfcphfdfpjmgiaa
open Go.RowKit

/-- What is needed of a ground's numbers. -/
structure G.Sane (g : G) : Prop where
  rng : g.Rng
  lW : 2 ≤ g.wide
  lH : 2 ≤ g.high
  hW : g.wide ≤ 8
  hH : g.high ≤ 8
  f0 : 0 ≤ g.fixed
  f1 : g.fixed < 18446744073709551616

def G.Fx (g : G) : Prop := 0 ≤ g.fixed ∧ g.fixed < 18446744073709551616
theorem sane_of {g : G} (h : okI g.m = true) (hx : g.Fx) : g.Sane := by
  obtain ⟨⟨a, c⟩, b, d⟩ := sized_of h
  exact ⟨rng_of (sized_of h), a, b, c, d, hx.1, hx.2⟩

def fixB (x : Int) (k : Nat) : Bool := decide (x / 2 ^ k % 2 = 1)

theorem shr_range {x : Int} (k : Nat) (h0 : 0 ≤ x) (h1 : x < 18446744073709551616) : 0 ≤ x / 2 ^ k ∧ x / 2 ^ k < 18446744073709551616 := by
  have hp : (0 : Int) < 2 ^ k := Int.pow_pos (by decide)
  refine ⟨Int.ediv_nonneg h0 (by omega), ?_⟩
  have := Int.ediv_le_self (2 ^ k) h0
  omega

set_option maxHeartbeats 400000 in
theorem fixed_any (b o k : Nat) (g : G) (w : World) (hk : k < 64) (hs : g.Sane) (hg : GAt w b o g) :
    Calls Try.prog 117 #[.pointer (some ⟨b, o, none⟩), .int .i64 k] w fun e w' => e = .returned (.bool (fixB g.fixed k)) ∧ w = w' := by
  have hc := hg.fixed
  obtain ⟨r0, r1⟩ := shr_range k hs.f0 hs.f1
  clear hg hs
  go_enter Try.func117, Try.ntmps117
  go_wp2_with fail
  go_ret
  refine ⟨ret_bool ?_, rfl⟩
  rw [show (1 : Int) = ((1 : Nat) : Int) from rfl, u64_and _ _ r0 r1 (by decide) (by decide)]
  unfold fixB
  have e : (((1 : Nat) : Int)).toNat = 1 := rfl
  rw [e, nat_mask1]
  generalize g.fixed / 2 ^ k = y at *
  rw [Bool.beq_eq_decide_eq]
  exact decide_eq_decide.2 (by omega)

set_option maxHeartbeats 400000 in
theorem l01Fixed_any (b o k : Nat) (g : G) (w : World) (hk : k < 64) (hs : g.Sane) (hg : GAt w b o g) :
    Calls Try.prog 119 #[.pointer (some ⟨b, o, none⟩), .int .i64 k] w fun e w' => e = .returned (.bool (fixB g.fixed k)) ∧ w = w' := by
  have hc := hg.fixed
  obtain ⟨r0, r1⟩ := shr_range k hs.f0 hs.f1
  clear hg hs
  go_enter Try.func119, Try.ntmps119
  go_wp2_with fail
  go_ret
  refine ⟨ret_bool ?_, rfl⟩
  unfold fixB
  rw [Bool.beq_eq_decide_eq]

/-- The sums over the first sides of a cell. -/
def abv (m : M) (k : Nat) : Nat → F
  | 0 => m.g k
  | s + 1 => if 0 ≤ beside m.wide m.high k s then fadd (abv m k s) (fmul (joint (m.c k) (m.c (beside m.wide m.high k s).toNat)) (m.h (beside m.wide m.high k s).toNat)) else abv m k s
def blw (m : M) (k : Nat) : Nat → F
  | 0 => some 0
  | s + 1 => if 0 ≤ beside m.wide m.high k s then fadd (blw m k s) (joint (m.c k) (m.c (beside m.wide m.high k s).toNat)) else blw m k s
def head (m : M) (k : Nat) : F := if fixB m.fixed k || feq (blw m k 4) (some 0) then m.h k else fdiv (abv m k 4) (blw m k 4)

theorem head_fixed {g : G} {k : Nat} (h : fixB g.fixed k = true) : head g.m k = fm g.h k := by
  show (if fixB g.fixed k || _ then _ else _) = _; rw [h]; rfl
theorem head_none {g : G} {k : Nat} (h : feq (blw g.m k 4) (some 0) = true) : head g.m k = fm g.h k := by
  show (if fixB g.fixed k || _ then _ else _) = _; rw [h, Bool.or_true]; rfl
theorem head_free {g : G} {k : Nat} (h : fixB g.fixed k = false) (h' : feq (blw g.m k 4) (some 0) = false) : head g.m k = fdiv (abv g.m k 4) (blw g.m k 4) := by
  show (if fixB g.fixed k || _ then _ else _) = _; rw [h, h']; rfl

theorem abv_yes {m : M} {k s n : Nat} (h : beside m.wide m.high k s = n) : abv m k (s + 1) = fadd (abv m k s) (fmul (joint (m.c k) (m.c n)) (m.h n)) := by
  show (if _ then _ else _) = _; rw [h, if_pos (by omega)]; rfl
theorem blw_yes {m : M} {k s n : Nat} (h : beside m.wide m.high k s = n) : blw m k (s + 1) = fadd (blw m k s) (joint (m.c k) (m.c n)) := by
  show (if _ then _ else _) = _; rw [h, if_pos (by omega)]; rfl
theorem abv_no {m : M} {k s : Nat} (h : beside m.wide m.high k s = -1) : abv m k (s + 1) = abv m k s := by
  show (if _ then _ else _) = _; rw [h, if_neg (by omega)]
theorem blw_no {m : M} {k s : Nat} (h : beside m.wide m.high k s = -1) : blw m k (s + 1) = blw m k s := by
  show (if _ then _ else _) = _; rw [h, if_neg (by omega)]

theorem Is.opl {r a b : Nat} {op : BinOp} {A : F} (h : Is r (fop op (fb a) (fb b))) (ha : Is a A) : Is r (fop op A (fb b)) := by rw [ha.out] at h; exact h
theorem Is.opr {r a b : Nat} {op : BinOp} {B : F} (h : Is r (fop op (fb a) (fb b))) (hb : Is b B) : Is r (fop op (fb a) B) := by rw [hb.out] at h; exact h

def HeadRel (m : M) (k : Nat) (w : World) (v5 v6 v16 : Value) (wr : World) : Prop :=
  ∃ s a c : Nat, s ≤ 4 ∧ v16 = .int .i64 s ∧ v5 = .float .f32 a ∧ v6 = .float .f32 c ∧ Is a (abv m k s) ∧ Is c (blw m k s) ∧ Below w.heap.size w wr

set_option maxRecDepth 100000 in
set_option maxHeartbeats 800000 in
theorem settled_any (b o k : Nat) (g : G) (w : World) (hk : k < 64) (hs : g.Sane) (hg : GAt w b o g) :
    Calls Try.prog 153 #[.pointer (some ⟨b, o, none⟩), .int .i64 k] w (RetF (head g.m k) w) := by
  have c1 := hg.g hk
  have hr := hs.rng
  have hW := hs.hW
  have hH := hs.hH
  have k1 : (k : Int) < 64 := by omega
  have heq := order_eq
  go_enter Try.func153, Try.ntmps153
  go_wp2_with fail
  go_loopw [5, 6, 16] (fun v5 v6 v16 wr => HeadRel g.m k w v5 v6 v16 wr) (fun _ _ v16 _ => 4 - (intOf v16).toNat)
  case atStart => exact ⟨0, g.g k, 0, by omega, rfl, rfl, rfl, (fm_of hk).symm, fb0, Below.refl _ _⟩
  case round =>
    obtain ⟨s, a, c, hs4, rfl, rfl, rfl, ha, hc, hB⟩ := hrel
    have HG := Lib.hid (hg.below hB)
    have HB := Lib.hid hB
    have HA := Lib.hid ha
    have HC := Lib.hid hc
    clear hB hg ha hc
    by_cases hlt : s < 4
    · have hbl := beside_lt g.wide g.high k s hk hW hH
      by_cases hb : 0 ≤ beside g.wide g.high k s
      · obtain ⟨n, hn⟩ : ∃ n : Nat, beside g.wide g.high k s = n := ⟨(beside g.wide g.high k s).toNat, by omega⟩
        have hnl : n < 64 := by omega
        have n1 : (n : Int) < 64 := by omega
        have HN := Lib.hid hn
        clear hbl hb hn
        go_wp2_with (go_at_call 164; refine (beside_any b o k s g _ hk hlt hr HG.out).mono ?_; rw [HN.out]; rintro e w' ⟨rfl, rfl⟩)
        have q1 := fun x => ext_cell wr x (HG.out.c hk)
        have q2 := fun x => ext_cell wr x (HG.out.c hnl)
        refine wp_soft (SF (joint (fb (g.c k)) (fb (g.c n)))) (by kernel_rfl) (by kernel_rfl) ?_
        repeat (first | (refine soft_step (fun K hK => ?_); go_simp; (try go_bits); refine hK _ ?_; clear hK K) | (refine soft_step (fun K hK => ?_); go_simp; refine ⟨_, _, ⟨rfl, rfl⟩, fun x => (JointOf_any _ _ _).mono ?_, ?_⟩; (rintro e w1 ⟨r, he, hr, hb⟩; exact ⟨_, he, ⟨r, rfl, hr⟩, hb⟩); rintro v ⟨r, rfl, hr9⟩; refine hK _ ?_; clear hK K))
        refine soft_nil ?_
        rintro w1 hw1
        have HB1 := Lib.hid (HB.out.trans (hw1.below.mono HB.out.size))
        have HG1 := HG.out.below hw1.below
        have q3 := HG1.h hnl
        clear hw1 q1 q2
        go_wp2_with (((with_reducible refine wpList_gate ?_); refine wpList_arith _ _ rfl rfl rfl ?_; intro r n hr))
        go_roundw
        case rel =>
          rename_i rm nm hm ra na ha'
          refine ⟨s + 1, ra, r, by omega, by go_num, rfl, rfl, ?_, ?_, ?_⟩
          · rw [abv_yes (m := g.m) HN.out]
            show fb ra = fadd (abv g.m k s) (fmul (joint (fm g.c k) (fm g.c _)) (fm g.h _))
            rw [ha'.out, fop, HA.out.out, hm.out, fop, hr9.out, fm_of hk, fm_of hnl, fm_of hnl]
          · rw [blw_yes (m := g.m) HN.out]
            show fb r = fadd (blw g.m k s) (joint (fm g.c k) (fm g.c _))
            rw [hr.out, fop, HC.out.out, hr9.out, fm_of hk, fm_of hnl]
          · exact below_drawn HB1.out _
        case measure => simp [intOf]; omega
      · have hn : beside g.wide g.high k s = -1 := by omega
        have HN := Lib.hid hn
        clear hn hbl hb
        go_wp2_with (go_at_call 164; refine (beside_any b o k s g _ hk hlt hr HG.out).mono ?_; rw [HN.out]; rintro e w' ⟨rfl, rfl⟩)
        go_roundw
        case rel => exact ⟨s + 1, a, c, by omega, by go_num, rfl, rfl, by rw [abv_no (m := g.m) HN.out]; exact HA.out, by rw [blw_no (m := g.m) HN.out]; exact HC.out, HB.out⟩
        case measure => simp [intOf]; omega
    · obtain rfl : s = 4 := by omega
      have q1 := HG.out.h hk
      cases hf : fixB g.fixed k
      · have HF := Lib.hid hf
        clear hf
        cases he : feq (fb c) (fb 0)
        · have HE := Lib.hid he
          go_wp2_with (first | (go_at_call 117; refine (fixed_any b o k g _ hk hs HG.out).mono ?_; rw [HF.out]; rintro e w' ⟨rfl, rfl⟩) | ((with_reducible refine wpList_gate ?_); refine wpList_arith _ _ rfl rfl rfl ?_; intro r n hr))
          go_ret
          refine ⟨_, rfl, ?_, below_drawn HB.out _⟩
          rw [head_free HF.out (by rw [← HC.out.out, ← fb0]; exact HE.out)]
          show fb r = _
          rw [hr.out, fop, HA.out.out, HC.out.out]
        · have HE := Lib.hid he
          go_wp2_with (first | (go_at_call 117; refine (fixed_any b o k g _ hk hs HG.out).mono ?_; rw [HF.out]; rintro e w' ⟨rfl, rfl⟩) | ((with_reducible refine wpList_gate ?_); refine wpList_arith _ _ rfl rfl rfl ?_; intro r n hr))
          go_ret
          refine ⟨_, rfl, ?_, HB.out⟩
          rw [head_none (by rw [← HC.out.out, ← fb0]; exact HE.out)]
          exact (fm_of hk).symm
      · have HF := Lib.hid hf
        clear hf
        go_wp2_with (first | (go_at_call 117; refine (fixed_any b o k g _ hk hs HG.out).mono ?_; rw [HF.out]; rintro e w' ⟨rfl, rfl⟩) | ((with_reducible refine wpList_gate ?_); refine wpList_arith _ _ rfl rfl rfl ?_; intro r n hr))
        go_ret
        refine ⟨_, rfl, ?_, HB.out⟩
        rw [head_fixed HF.out]
        exact (fm_of hk).symm

def HeadRelS (m : M) (k : Nat) (w : World) (v5 v6 v7 : Value) (wr : World) : Prop :=
  ∃ s a c : Nat, s ≤ 4 ∧ v7 = .int .i64 s ∧ v5 = .float .f32 a ∧ v6 = .float .f32 c ∧ Is a (abv m k s) ∧ Is c (blw m k s) ∧ Below w.heap.size w wr

set_option maxRecDepth 100000 in
set_option maxHeartbeats 800000 in
theorem l02Head_any (b o k : Nat) (g : G) (w : World) (hk : k < 64) (hs : g.Sane) (hg : GAt w b o g) :
    Calls Try.prog 155 #[.pointer (some ⟨b, o, none⟩), .int .i64 k] w (RetF (head g.m k) w) := by
  have k1 : (k : Int) < 64 := by omega
  have heq := order_eq
  cases hf : fixB g.fixed k
  · have HF := Lib.hid hf
    have c1 := hg.g hk
    clear hf
    have hr := hs.rng
    have hW := hs.hW
    have hH := hs.hH
    go_enter Try.func155, Try.ntmps155
    go_wp2_with (go_at_call 119; refine (l01Fixed_any b o k g _ hk hs hg).mono ?_; rw [HF.out]; rintro e w' ⟨rfl, rfl⟩)
    go_loopw [5, 6, 7] (fun v5 v6 v7 wr => HeadRelS g.m k w v5 v6 v7 wr) (fun _ _ v7 _ => 4 - (intOf v7).toNat)
    case atStart => exact ⟨0, g.g k, 0, by omega, rfl, rfl, rfl, (fm_of hk).symm, fb0, Below.refl _ _⟩
    case round =>
      obtain ⟨s, a, c, hs4, rfl, rfl, rfl, ha, hc, hB⟩ := hrel
      have HG := Lib.hid (hg.below hB)
      have HB := Lib.hid hB
      have HA := Lib.hid ha
      have HC := Lib.hid hc
      clear hB hg ha hc
      by_cases hlt : s < 4
      · have hbl := beside_lt g.wide g.high k s hk hW hH
        by_cases hb : 0 ≤ beside g.wide g.high k s
        · obtain ⟨n, hn⟩ : ∃ n : Nat, beside g.wide g.high k s = n := ⟨(beside g.wide g.high k s).toNat, by omega⟩
          have hnl : n < 64 := by omega
          have n1 : (n : Int) < 64 := by omega
          have HN := Lib.hid hn
          clear hbl hb hn
          go_wp2_with fail
          refine (l01Between_any b o k s g _ hk hlt hr hW hH HG.out).mono ?_
          rw [HN.out]
          rintro e w1 ⟨rj, rfl, hrj, hb1⟩
          have HB1 := Lib.hid (HB.out.trans (hb1.mono HB.out.size))
          have q3 := (HG.out.below hb1).h hnl
          have HJ : Hid (fb rj = joint (fb (g.c k)) (fb (g.c n))) := by
            have := hrj.out
            unfold between at this
            rw [show beside (G.m g).wide (G.m g).high k s = (n : Int) from HN.out, if_neg (by omega)] at this
            rw [this]
            show joint (fm g.c k) (fm g.c n) = _
            rw [fm_of hk, fm_of hnl]
          clear hb1 hrj
          go_wp2_with (((with_reducible refine wpList_gate ?_); refine wpList_arith _ _ rfl rfl rfl ?_; intro r n hr))
          go_roundw
          case rel =>
            rename_i rm nm hm ra na ha'
            refine ⟨s + 1, ra, r, by omega, by go_num, rfl, rfl, ?_, ?_, ?_⟩
            · rw [abv_yes (m := g.m) HN.out]
              show fb ra = fadd (abv g.m k s) (fmul (joint (fm g.c k) (fm g.c _)) (fm g.h _))
              rw [ha'.out, fop, HA.out.out, hm.out, fop, HJ.out, fm_of hk, fm_of hnl, fm_of hnl]
            · rw [blw_yes (m := g.m) HN.out]
              show fb r = fadd (blw g.m k s) (joint (fm g.c k) (fm g.c _))
              rw [hr.out, fop, HC.out.out, HJ.out, fm_of hk, fm_of hnl]
            · exact below_drawn HB1.out _
          case measure => simp [intOf]; omega
        · have hn : beside g.wide g.high k s = -1 := by omega
          have HN := Lib.hid hn
          clear hn hbl hb
          go_wp2_with fail
          refine (l01Between_any b o k s g _ hk hlt hr hW hH HG.out).mono ?_
          rw [HN.out]
          rintro e w1 ⟨rj, rfl, hrj, hb1⟩
          have HB1 := Lib.hid (HB.out.trans (hb1.mono HB.out.size))
          clear hb1
          go_wp2_with fail
          go_roundw
          case rel => exact ⟨s + 1, a, c, by omega, by go_num, rfl, rfl, by rw [abv_no (m := g.m) HN.out]; exact HA.out, by rw [blw_no (m := g.m) HN.out]; exact HC.out, HB1.out⟩
          case measure => simp [intOf]; omega
      · obtain rfl : s = 4 := by omega
        have q1 := HG.out.h hk
        cases he : feq (fb c) (fb 0)
        · have HE := Lib.hid he
          go_wp2_with (((with_reducible refine wpList_gate ?_); refine wpList_arith _ _ rfl rfl rfl ?_; intro r n hr))
          go_ret
          refine ⟨_, rfl, ?_, below_drawn HB.out _⟩
          rw [head_free HF.out (by rw [← HC.out.out, ← fb0]; exact HE.out)]
          show fb r = _
          rw [hr.out, fop, HA.out.out, HC.out.out]
        · have HE := Lib.hid he
          go_wp2_with (((with_reducible refine wpList_gate ?_); refine wpList_arith _ _ rfl rfl rfl ?_; intro r n hr))
          go_ret
          refine ⟨_, rfl, ?_, HB.out⟩
          rw [head_none (by rw [← HC.out.out, ← fb0]; exact HE.out)]
          exact (fm_of hk).symm
  · have HF := Lib.hid hf
    have q1 := hg.h hk
    clear hf
    go_enter Try.func155, Try.ntmps155
    go_wp2_with (go_at_call 119; refine (l01Fixed_any b o k g _ hk hs hg).mono ?_; rw [HF.out]; rintro e w' ⟨rfl, rfl⟩)
    go_ret
    refine ⟨_, rfl, ?_, Below.refl _ _⟩
    rw [head_fixed HF.out]
    exact (fm_of hk).symm
end Go.Proofs.Ytfcphfdfpjmgiaa
