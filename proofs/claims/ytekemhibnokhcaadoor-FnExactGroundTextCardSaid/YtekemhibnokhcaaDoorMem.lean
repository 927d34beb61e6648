/- Laws of the walk for rows of memory: made, stored whole, stored and read cell by cell; what a block keeps. -/
import Derived.Test.YtekemhibnokhcaaDoorLeaf
namespace Go.Proofs.YtekemhibnokhcaaDoor
open Go.RowKit

theorem below_drawn {B : Nat} {a w : World} (h : Below B a w) (n : Nat) : Below B a (w.drewN n) := ⟨h.os, h.tape, h.output, h.size, h.block⟩
theorem below_row {B g : Nat} {a w : World} (h : Below B a w) (hg : B ≤ g) (cs : Array Value) : Below B a (w.setRow g cs) :=
  h.trans ⟨rfl, rfl, rfl, by simp, fun k hk => setRow_other w g k cs (by omega)⟩

section
variable {w w' : World} {b : Nat} {cs : Array Value} {t : TypeId}
theorem Blk.lt (h : Blk w b cs t) : b < w.heap.size := (Array.getElem?_eq_some_iff.1 h).1
theorem Blk.alloc (h : Blk w b cs t) (o : Obj) : Blk (w.alloc o) b cs t := (Below.heap_alloc w o b h.lt).trans h
theorem Blk.new (w : World) (cs : Array Value) (t : TypeId) : Blk (w.alloc (.cells cs t)) w.heap.size cs t := heap_alloc_new w _
theorem Blk.new' (w : World) (cs : Array Value) (t : TypeId) (h : b = w.heap.size) : Blk (w.alloc (.cells cs t)) b cs t := by subst h; exact heap_alloc_new w _
theorem Blk.below {B : Nat} (h : Blk w b cs t) (hb : Below B w w') (hB : b < B) : Blk w' b cs t := (hb.block b hB).trans h
theorem Blk.later (h : Blk w b cs t) (hb : Below w.heap.size w w') : Blk w' b cs t := h.below hb h.lt
theorem Blk.drewN (h : Blk w b cs t) (n : Nat) : Blk (w.drewN n) b cs t := h
theorem Blk.row_same (h : Blk w b cs t) (cs' : Array Value) : Blk (w.setRow b cs') b cs' t := setRow_heap w b cs cs' t _ h
theorem Blk.row_ne (h : Blk w b cs t) {g : Nat} (hne : b ≠ g) (cs' : Array Value) : Blk (w.setRow g cs') b cs t := (setRow_other w g b cs' hne).trans h
theorem Blk.cell_same (h : Blk w b cs t) (i : Nat) (v : Value) : Blk (w.setCell ⟨b, i, none⟩ v) b (cs.setIfInBounds i v) t := heap_setCell_same w b i cs t v h
theorem Blk.cell_ne (h : Blk w b cs t) {a : Addr} (hne : b ≠ a.block) (v : Value) : Blk (w.setCell a v) b cs t := (heap_setCell_other w a b v hne).trans h
theorem Blk.at (h : Blk w b cs t) {i : Nat} {v : Value} (hv : cs[i]? = some v) : w.cell? ⟨b, i, none⟩ = some v := by rw [cell_of_row w b i cs t _ h]; exact hv
theorem Blk.free (h : Blk w b cs t) (i : Nat) : w.frozen? ⟨b, i, none⟩ = false := frozen_of_row w b i cs t h
end

section
variable {w w' w'' : World} {g : Nat} {cs : Array Value} {t : TypeId}
theorem grown_refl (w : World) (r : Option Nat) : w.grownBy w r := ⟨rfl, rfl, rfl, Nat.le_refl _, fun _ _ _ => rfl⟩
theorem grown_trans {r : Option Nat} (h : w.grownBy w' r) (h' : w'.grownBy w'' r) : w.grownBy w'' r :=
  ⟨h'.os.trans h.os, h'.tape.trans h.tape, h'.output.trans h.output, Nat.le_trans h.size h'.size, fun k hk hne => (h'.block k (Nat.lt_of_lt_of_le hk h.size) hne).trans (h.block k hk hne)⟩
theorem grown_below {r : Option Nat} (h : Below w.heap.size w w') : w.grownBy w' r := ⟨h.os, h.tape, h.output, h.size, fun k hk _ => h.block k hk⟩
theorem grown_drewN (w : World) (n : Nat) (r : Option Nat) : w.grownBy (w.drewN n) r := ⟨rfl, rfl, rfl, Nat.le_refl _, fun _ _ _ => rfl⟩
theorem Blk.grown {r : Nat} (h : Blk w g cs t) (hg : w.grownBy w' (some r)) (hne : g ≠ r) : Blk w' g cs t := (hg.block g h.lt (by simpa using hne)).trans h
theorem cell_grown {r b o : Nat} {v : Value} (h : w.cell? ⟨b, o, none⟩ = some v) (hg : w.grownBy w' (some r)) (hne : b ≠ r) : w'.cell? ⟨b, o, none⟩ = some v := hg.cell h (by simpa using hne)
theorem below_grown {B r : Nat} {a : World} (h : Below B a w) (hg : w.grownBy w' (some r)) (hB : B ≤ w.heap.size) (hr : B ≤ r) : Below B a w' := h.grown hg hB (fun k hk => by cases hk; exact hr)
end

section
variable {P : Program} {ops : Array Oper} {Q : Exit → Act → World → Prop} {rest : List Oper} {a : Act} {w : World} {dst : Option Tmp} {T ty : TypeId} {X Y : Operand} {pos : String} {after : Array Edge}

theorem wpList_ran {o : Oper} {v : Value} {w' : World} (hg : o.guard = none) (hr : (execOp a.eval o).run P w = .ok (.value v) w') (h : wpList P ops Q rest (a.put o.dst v) w') : wpList P ops Q (o :: rest) a w := by
  refine wpList_plain hg fun K hK => ?_
  unfold Oper.wp
  rw [hr]
  exact hK _ _ h

theorem wpList_ranU {o : Oper} {w' : World} (hg : o.guard = none) (hr : (execOp a.eval o).run P w = .ok .skip w') (h : wpList P ops Q rest (a.put o.dst undef) w') : wpList P ops Q (o :: rest) a w := by
  refine wpList_plain hg fun K hK => ?_
  unfold Oper.wp
  rw [hr]
  exact hK _ _ h

/-- A new variable. -/
theorem wpList_new {Z : Array Value} (hr : ∀ w : World, (Instr.alloc T true (.tuple #[])).run P w = .ok (.pointer (some ⟨w.heap.size, 0, none⟩)) (w.alloc (.cells Z T)))
    (h : ∀ B w', w.heap.size ≤ B → B < w'.heap.size → Blk w' B Z T → Below w.heap.size w w' → wpList P ops Q rest (a.put dst (.pointer (some ⟨B, 0, none⟩))) w') : wpList P ops Q (⟨dst, .alloc T, ty, pos, after, none⟩ :: rest) a w :=
  wpList_ran rfl (by simp [execOp, hr]) (h _ _ (Nat.le_refl _) (by simp) (Blk.new w Z T) ((Below.refl _ _).alloc (Nat.le_refl _) _))

/-- A variable of a parameter. -/
theorem wpList_box {Z : Array Value} (hx : a.eval X = .agg Z)
    (h : ∀ B w', w.heap.size ≤ B → B < w'.heap.size → Blk w' B Z T → Below w.heap.size w w' → wpList P ops Q rest (a.put dst (.pointer (some ⟨B, 0, none⟩))) w') : wpList P ops Q (⟨dst, .box T X, ty, pos, after, none⟩ :: rest) a w :=
  wpList_ran rfl (v := .pointer (some ⟨w.heap.size, 0, none⟩)) (w' := w.alloc (.cells Z T)) (by simp only [execOp, hx, Instr.box, newVar, newRow, newObj, Value.cells]; rfl) (h _ _ (Nat.le_refl _) (by simp) (Blk.new w Z T) ((Below.refl _ _).alloc (Nat.le_refl _) _))

/-- A zero composite. -/
theorem wpList_zero {v : Value} {w' : World} (hr : (Instr.build T #[]).run P w = .ok v w')
    (h : wpList P ops Q rest (a.put dst v) w') : wpList P ops Q (⟨dst, .build T #[], ty, pos, after, none⟩ :: rest) a w :=
  wpList_ran rfl (by simp [execOp, hr]) h

/-- A variable is stored whole. -/
theorem wpList_put {g : Nat} {cells old : Array Value} {t : TypeId} (hg : Blk w g old t) (hi : (P.info? T).map (·.size) = some cells.size) (ho : old.size = cells.size) (h1 : cells.all (·.oneCell') = true)
    (hx : a.eval X = .pointer (some ⟨g, 0, none⟩)) (hy : a.eval Y = .agg cells)
    (h : ∀ w', w'.heap.size = w.heap.size → Blk w' g cells t → w.grownBy w' (some g) → wpList P ops Q rest (a.put dst undef) w') : wpList P ops Q (⟨dst, .store T X Y, ty, pos, after, none⟩ :: rest) a w :=
  wpList_store_row rfl T X Y rfl g cells hx hy t old hg hi ho h1 (h _ (by simp) (hg.row_same cells) ⟨rfl, rfl, rfl, by simp, fun k _ hk => setRow_other w g k cells (fun e => hk (by rw [e]))⟩)

/-- A variable is read whole. -/
theorem wpList_get {g : Nat} {cells : Array Value} {t : TypeId} {d : TypeDesc} (hg : Blk w g cells t) (hu : P.underlying T = some d) (hd : (match d with | .struct _ | .array _ _ => true | _ => false) = true) (hi : (P.info? T).map (·.size) = some cells.size)
    (hx : a.eval X = .pointer (some ⟨g, 0, none⟩))
    (h : wpList P ops Q rest (a.put dst (.agg cells)) w) : wpList P ops Q (⟨dst, .load T X, ty, pos, after, none⟩ :: rest) a w :=
  wpList_load_row rfl T X rfl g hx t cells _ d hg hu hd hi h

theorem run_put1 {g i : Nat} {v : Value} {old : Array Value} {t : TypeId} (hT : (P.info? T).map (·.size) = some 1) (hv : v.oneCell' = true) (hc : v.cells = #[v]) (hg : Blk w g old t) (hlt : i < old.size) :
    (storeVar T ⟨g, i, none⟩ v).run P w = .ok () (w.setCell ⟨g, i, none⟩ v) := by
  obtain ⟨ti, h1, h2⟩ := Option.map_eq_some_iff.1 hT
  have h3 : w.cell? ⟨g, i, none⟩ = some old[i] := hg.at (by simp [hlt])
  have hadd : (⟨g, i, none⟩ : Addr).add 0 = ⟨g, i, none⟩ := rfl
  simp only [storeVar, sizeOf, typeInfo, hc]
  simp [Sem.run_bind, h1, h2, storeCells, hadd, run_store P w _ v _ hv, h3, hg.free i]

/-- A cell is read. -/
theorem wpList_get1 {g i : Nat} {v : Value} {cells : Array Value} {t : TypeId} {d : TypeDesc} (hg : Blk w g cells t) (hv : cells[i]? = some v) (hu : P.underlying T = some d) (hd : (match d with | .struct _ | .array _ _ => true | _ => false) = false)
    (hx : a.eval X = .pointer (some ⟨g, i, none⟩))
    (h : wpList P ops Q rest (a.put dst v) w) : wpList P ops Q (⟨dst, .load T X, ty, pos, after, none⟩ :: rest) a w :=
  wpList_ran rfl (by
    have hagg : (isAgg T).run P w = .ok false w := by
      unfold isAgg
      rw [Sem.run_bind, run_underlying hu w]
      cases d <;> simp_all
    simp only [execOp, hx, Instr.loadAt, Instr.sureAddr, loadVar]
    simp [Sem.run_bind, hagg, hg.at hv]) h

/-- A cell is stored. -/
theorem wpList_put1 {g i : Nat} {v : Value} {old : Array Value} {t : TypeId} (hT : (P.info? T).map (·.size) = some 1) (hg : Blk w g old t) (hlt : i < old.size)
    (hx : a.eval X = .pointer (some ⟨g, i, none⟩)) (hy : a.eval Y = v) (hv : v.oneCell' = true) (hc : v.cells = #[v])
    (h : ∀ w', w'.heap.size = w.heap.size → Blk w' g (old.setIfInBounds i v) t → w.grownBy w' (some g) → wpList P ops Q rest (a.put dst undef) w') : wpList P ops Q (⟨dst, .store T X Y, ty, pos, after, none⟩ :: rest) a w :=
  wpList_ranU rfl (by
    subst hy
    simp only [execOp, hx, Instr.storeAt, Instr.sureAddr]
    simp [run_put1 hT hv hc hg hlt]) (h _ (by simp [World.setCell]) (hg.cell_same i v) ⟨rfl, rfl, rfl, by simp [World.setCell], fun k _ hk => heap_setCell_other w _ k v (fun e => hk (by rw [e]))⟩)
end

theorem newF (w : World) : (Instr.alloc 36 true (.tuple #[])).run Tryd.prog w = .ok (.pointer (some ⟨w.heap.size, 0, none⟩)) (w.alloc (.cells (arrF fun _ => 0) 36)) := by kernel_rfl
theorem zeroF (w : World) : (Instr.build 36 #[]).run Tryd.prog w = .ok (.agg (arrF fun _ => 0)) w := by kernel_rfl
theorem sizeF : (Tryd.prog.info? 36).map (·.size) = some 64 := by kernel_rfl
theorem size32 : (Tryd.prog.info? 30).map (·.size) = some 1 := by kernel_rfl
def G0 : G := ⟨0, 0, fun _ => 0, fun _ => 0, fun _ => 0, 0⟩
theorem newG (w : World) : (Instr.alloc 38 true (.tuple #[])).run Tryd.prog w = .ok (.pointer (some ⟨w.heap.size, 0, none⟩)) (w.alloc (.cells (arrG G0) 38)) := by kernel_rfl
theorem zeroG (w : World) : (Instr.build 38 #[]).run Tryd.prog w = .ok (.agg (arrG G0)) w := by kernel_rfl
theorem sizeG : (Tryd.prog.info? 38).map (·.size) = some 195 := by kernel_rfl

section
variable {ops : Array Oper} {Q : Exit → Act → World → Prop} {rest : List Oper} {a : Act} {w : World} {dst : Option Tmp} {ty : TypeId} {X Y : Operand} {pos : String} {after : Array Edge} {B : Nat} {t : TypeId}

theorem wpList_putF {f0 f : Nat → Nat} (hg : Blk w B (arrF f0) t) (hx : a.eval X = .pointer (some ⟨B, 0, none⟩)) (hy : a.eval Y = .agg (arrF f))
    (h : ∀ w', w'.heap.size = w.heap.size → Blk w' B (arrF f) t → w.grownBy w' (some B) → wpList Tryd.prog ops Q rest (a.put dst undef) w') : wpList Tryd.prog ops Q (⟨dst, .store 36 X Y, ty, pos, after, none⟩ :: rest) a w :=
  wpList_put hg (by rw [arrF_size]; exact sizeF) (by rw [arrF_size, arrF_size]) (arrF_one f) hx hy h
theorem wpList_putG {g0 g : G} (hg : Blk w B (arrG g0) t) (hx : a.eval X = .pointer (some ⟨B, 0, none⟩)) (hy : a.eval Y = .agg (arrG g))
    (h : ∀ w', w'.heap.size = w.heap.size → Blk w' B (arrG g) t → w.grownBy w' (some B) → wpList Tryd.prog ops Q rest (a.put dst undef) w') : wpList Tryd.prog ops Q (⟨dst, .store 38 X Y, ty, pos, after, none⟩ :: rest) a w :=
  wpList_put hg (by rw [arrG_size]; exact sizeG) (by rw [arrG_size, arrG_size]) (arrG_one g) hx hy h
theorem wpList_getF {f : Nat → Nat} (hg : Blk w B (arrF f) t) (hx : a.eval X = .pointer (some ⟨B, 0, none⟩))
    (h : wpList Tryd.prog ops Q rest (a.put dst (.agg (arrF f))) w) : wpList Tryd.prog ops Q (⟨dst, .load 36 X, ty, pos, after, none⟩ :: rest) a w :=
  wpList_get hg Tryd.underlying36 rfl (by rw [arrF_size]; exact sizeF) hx h
theorem wpList_getG {g : G} (hg : Blk w B (arrG g) t) (hx : a.eval X = .pointer (some ⟨B, 0, none⟩))
    (h : wpList Tryd.prog ops Q rest (a.put dst (.agg (arrG g))) w) : wpList Tryd.prog ops Q (⟨dst, .load 38 X, ty, pos, after, none⟩ :: rest) a w :=
  wpList_get hg Tryd.underlying38 rfl (by rw [arrG_size]; exact sizeG) hx h
theorem wpList_setF {f : Nat → Nat} {k r : Nat} (hg : Blk w B (arrF f) t) (hk : k < 64) (hx : a.eval X = .pointer (some ⟨B, k, none⟩)) (hy : a.eval Y = .float .f32 r)
    (h : ∀ w', w'.heap.size = w.heap.size → Blk w' B (arrF (upd f k r)) t → w.grownBy w' (some B) → wpList Tryd.prog ops Q rest (a.put dst undef) w') : wpList Tryd.prog ops Q (⟨dst, .store 30 X Y, ty, pos, after, none⟩ :: rest) a w :=
  wpList_put1 size32 hg (by rw [arrF_size]; exact hk) hx hy rfl rfl (by rw [arrF_set]; exact h)
theorem wpList_setH {g : G} {k r : Nat} (hg : Blk w B (arrG g) t) (hk : k < 64) (hx : a.eval X = .pointer (some ⟨B, 130 + k, none⟩)) (hy : a.eval Y = .float .f32 r)
    (h : ∀ w', w'.heap.size = w.heap.size → Blk w' B (arrG { g with h := upd g.h k r }) t → w.grownBy w' (some B) → wpList Tryd.prog ops Q rest (a.put dst undef) w') : wpList Tryd.prog ops Q (⟨dst, .store 30 X Y, ty, pos, after, none⟩ :: rest) a w :=
  wpList_put1 size32 hg (by rw [arrG_size]; omega) hx hy rfl rfl (by rw [arrG_setH g hk]; exact h)
end

section
variable {fn : Func} {a : Act} {w : World} {R : Ending → World → Prop} {p u v : Tmp} {B : Nat} {cs : Array Value} {t T : TypeId}

theorem ret_cell1 (h : fn.results = #[.cell p T]) (hp : a.tmps.getD p undef = .pointer (some ⟨B, 0, none⟩)) (hl : (loadVar T ⟨B, 0, none⟩).run Tryd.prog w = .ok (.agg cs) w) (hd : a.defers = [])
    (hR : R (.returned (.agg cs)) w) : bodyPost Tryd.prog fn R .ret a w := by
  refine bodyPost_ret (v := .agg cs) ?_ hd hR
  simp only [results, h]
  simp only [Array.getD_eq_getD_getElem?] at hp
  simp [hp, asAddr, hl]
theorem ret_cell2 (h : fn.results = #[.cell p T, .tmp u]) (hp : a.tmps.getD p undef = .pointer (some ⟨B, 0, none⟩)) (hl : (loadVar T ⟨B, 0, none⟩).run Tryd.prog w = .ok (.agg cs) w) (hd : a.defers = [])
    (hR : R (.returned (.tuple #[.agg cs, a.tmps.getD u undef])) w) : bodyPost Tryd.prog fn R .ret a w := by
  refine bodyPost_ret (v := .tuple #[.agg cs, a.tmps.getD u undef]) ?_ hd hR
  simp only [results, h]
  simp only [Array.getD_eq_getD_getElem?] at hp
  simp [hp, asAddr, hl]
theorem ret_cell3 (h : fn.results = #[.cell p T, .tmp u, .tmp v]) (hp : a.tmps.getD p undef = .pointer (some ⟨B, 0, none⟩)) (hl : (loadVar T ⟨B, 0, none⟩).run Tryd.prog w = .ok (.agg cs) w) (hd : a.defers = [])
    (hR : R (.returned (.tuple #[.agg cs, a.tmps.getD u undef, a.tmps.getD v undef])) w) : bodyPost Tryd.prog fn R .ret a w := by
  refine bodyPost_ret (v := .tuple #[.agg cs, a.tmps.getD u undef, a.tmps.getD v undef]) ?_ hd hR
  simp only [results, h]
  simp only [Array.getD_eq_getD_getElem?] at hp
  simp [hp, asAddr, hl]

theorem loadF {f : Nat → Nat} (hB : Blk w B (arrF f) t) : (loadVar 36 ⟨B, 0, none⟩).run Tryd.prog w = .ok (.agg (arrF f)) w := run_loadVar_row w B t _ _ _ _ hB Tryd.underlying36 rfl (by rw [arrF_size]; exact sizeF)
theorem loadG {g : G} (hB : Blk w B (arrG g) t) : (loadVar 38 ⟨B, 0, none⟩).run Tryd.prog w = .ok (.agg (arrG g)) w := run_loadVar_row w B t _ _ _ _ hB Tryd.underlying38 rfl (by rw [arrG_size]; exact sizeG)
end

theorem ret_tmp3 {fn : Func} {a : Act} {w : World} {R : Ending → World → Prop} {u v x : Tmp} (h : fn.results = #[.tmp u, .tmp v, .tmp x]) (hd : a.defers = [])
    (hR : R (.returned (.tuple #[a.tmps.getD u undef, a.tmps.getD v undef, a.tmps.getD x undef])) w) : bodyPost Tryd.prog fn R .ret a w := by
  refine bodyPost_ret (v := .tuple #[a.tmps.getD u undef, a.tmps.getD v undef, a.tmps.getD x undef]) ?_ hd hR
  simp only [results, h]
  simp


/-- The bits of a float's value. -/
def f32 : Value → Nat
  | .float _ b => b
  | _ => 0

/-- THE WALK's LAW for float arithmetic, with nothing to be found. -/
theorem wpList_ar {P : Program} {ops : Array Oper} {Q : Exit → Act → World → Prop} {rest : List Oper} {a : Act} {w : World} {dst : Option Tmp} {op : BinOp} {t t2 ty : TypeId} {X Y : Operand} {pos : String} {after : Array Edge}
    (ho : arith op = true) (hx : a.eval X = .float .f32 (f32 (a.eval X))) (hy : a.eval Y = .float .f32 (f32 (a.eval Y)))
    (h : ∀ r n, Is r (fop op (fb (f32 (a.eval X))) (fb (f32 (a.eval Y)))) → wpList P ops Q rest (a.put dst (.float .f32 r)) (w.drewN n)) :
    wpList P ops Q (⟨dst, .binOp op t X Y t2, ty, pos, after, none⟩ :: rest) a w := wpList_arith _ _ ho hx hy h

def Gate (p : Prop) : Prop := p
/-- Only at a binary operation. -/
theorem wpList_gate {P : Program} {ops : Array Oper} {Q : Exit → Act → World → Prop} {rest : List Oper} {a : Act} {w : World} {dst : Option Tmp} {op : BinOp} {t t2 ty : TypeId} {X Y : Operand} {pos : String} {after : Array Edge}
    (h : Gate (wpList P ops Q (⟨dst, .binOp op t X Y t2, ty, pos, after, none⟩ :: rest) a w)) : wpList P ops Q (⟨dst, .binOp op t X Y t2, ty, pos, after, none⟩ :: rest) a w := h

/-- Only at a store. -/
theorem wpList_gateS {P : Program} {ops : Array Oper} {Q : Exit → Act → World → Prop} {rest : List Oper} {a : Act} {w : World} {dst : Option Tmp} {ty T : TypeId} {X Y : Operand} {pos : String} {after : Array Edge}
    (h : Gate (wpList P ops Q (⟨dst, .store T X Y, ty, pos, after, none⟩ :: rest) a w)) : wpList P ops Q (⟨dst, .store T X Y, ty, pos, after, none⟩ :: rest) a w := h

end Go.Proofs.YtekemhibnokhcaaDoor
