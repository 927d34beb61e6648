/- Rows in the middle of a block: read, stored. -/
import Derived.Test.YtonmdkhfongmhaaMem
namespace Go.Proofs.Ytonmdkhfongmhaa
open Go.RowKit

/-! Rows in the middle of a block. -/
def RowAt (w : World) (b o : Nat) (cs : Array Value) : Prop := ∀ i v, cs[i]? = some v → w.cell? ⟨b, o + i, none⟩ = some v

section
variable {ops : Array Oper} {Q : Exit → Act → World → Prop} {rest : List Oper} {a : Act} {w : World} {dst : Option Tmp} {ty : TypeId} {X Y : Operand} {pos : String} {after : Array Edge} {B : Nat} {t : TypeId}

/-- A row is read out of the middle of a block. -/
theorem wpList_getAt {T : TypeId} {d : TypeDesc} {b o : Nat} {cs : Array Value} (hu : Try.prog.underlying T = some d) (hd : (match d with | .struct _ | .array _ _ => true | _ => false) = true) (hi : (Try.prog.info? T).map (·.size) = some cs.size)
    (hf : RowAt w b o cs) (hx : a.eval X = .pointer (some ⟨b, o, none⟩))
    (h : wpList Try.prog ops Q rest (a.put dst (.agg cs)) w) : wpList Try.prog ops Q (⟨dst, .load T X, ty, pos, after, none⟩ :: rest) a w :=
  wpList_ran rfl (by
    obtain ⟨ti, h1, h2⟩ := Option.map_eq_some_iff.1 hi
    have hagg : (isAgg T).run Try.prog w = .ok true w := by
      unfold isAgg
      rw [Sem.run_bind, run_underlying hu w]
      cases d <;> simp_all
    have hl := run_loadCells_list (P := Try.prog) w ⟨b, o, none⟩ cs.toList (fun j v hv => by
      rw [Array.getElem?_toList] at hv
      rw [Addr.add_lit]
      exact hf j v hv)
    rw [Array.length_toList] at hl
    simp only [execOp, hx, Instr.loadAt, Instr.sureAddr, loadVar]
    simp [Sem.run_bind, hagg, sizeOf, typeInfo, h1, h2, hl]) h

/-- A row is stored into the middle of a block. -/
theorem wpList_putAt {T : TypeId} {o : Nat} {cs old new : Array Value} (hi : (Try.prog.info? T).map (·.size) = some cs.size) (hone : cs.all (·.oneCell') = true) (hg : Blk w B old t) (ho : o + cs.size ≤ old.size)
    (hs : new.size = old.size) (hc : ∀ i, i < old.size → new[i]? = if o ≤ i ∧ i < o + cs.size then cs[i - o]? else old[i]?)
    (hx : a.eval X = .pointer (some ⟨B, o, none⟩)) (hy : a.eval Y = .agg cs)
    (h : ∀ w', w'.heap.size = w.heap.size → Blk w' B new t → w.grownBy w' (some B) → wpList Try.prog ops Q rest (a.put dst undef) w') : wpList Try.prog ops Q (⟨dst, .store T X Y, ty, pos, after, none⟩ :: rest) a w :=
  wpList_ranU rfl (by
    obtain ⟨ti, h1, h2⟩ := Option.map_eq_some_iff.1 hi
    have hst := run_storeCells_at (P := Try.prog) B o t cs.toList 0 old w hg (by rw [Array.length_toList]; omega) (fun v hv => (Array.all_eq_true_iff_forall_mem.1 hone) v (by simpa using hv))
    have e : (old.toList.take (o + 0) ++ cs.toList ++ old.toList.drop (o + 0 + cs.toList.length)).toArray = new := by
      apply Array.ext_getElem?
      intro i
      rw [List.getElem?_toArray]
      by_cases hi : i < old.size
      · rw [hc i hi]
        by_cases c1 : i < o
        · rw [if_neg (by omega), List.append_assoc, List.getElem?_append_left (by rw [List.length_take, Array.length_toList]; omega), List.getElem?_take, if_pos (by omega), Array.getElem?_toList]
        · by_cases c2 : i < o + cs.size
          · rw [if_pos ⟨by omega, c2⟩, List.append_assoc, List.getElem?_append_right (by rw [List.length_take, Array.length_toList]; omega), List.getElem?_append_left (by rw [List.length_take, Array.length_toList, Array.length_toList]; omega), List.length_take, Array.length_toList,
              show i - min (o + 0) old.size = i - o by omega, Array.getElem?_toList]
          · rw [if_neg (by omega), List.getElem?_append_right (by rw [List.length_append, List.length_take, Array.length_toList, Array.length_toList]; omega), List.length_append, List.length_take, Array.length_toList, Array.length_toList, List.getElem?_drop,
              show o + 0 + cs.size + (i - (min (o + 0) old.size + cs.size)) = i by omega, Array.getElem?_toList]
      · rw [Array.getElem?_eq_none (xs := new) (by omega), List.getElem?_eq_none (by rw [List.length_append, List.length_append, List.length_take, List.length_drop, Array.length_toList, Array.length_toList]; omega)]
    rw [e] at hst
    simp only [execOp, hx, hy, Instr.storeAt, Instr.sureAddr, storeVar]
    simp [Sem.run_bind, sizeOf, typeInfo, h1, h2, Value.cells, hst])
    (h _ (by simp) (hg.row_same _) ⟨rfl, rfl, rfl, by simp, fun k _ hk => setRow_other w B k _ (fun e => hk (by rw [e]))⟩)

end
end Go.Proofs.Ytonmdkhfongmhaa
