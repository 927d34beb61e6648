/- Texts: what the cards share. -/
import Derived.Test.YtekemhibnokhcaaDoorDdec
import Derived.Test.YtekemhibnokhcaaDoorShelf
namespace Go.Proofs.YtekemhibnokhcaaDoor
open Go.RowKit

/-- The library's table of powers of ten lies as it should. -/
def Tab (w : World) : Prop := Lib.TabIs Tryd.prog w "internal/strconv.uint64pow10" .u64 Lib.pow10Tab
theorem Tab.later {w w' : World} (h : Tab w) (hb : Below w.heap.size w w') : Tab w' := by
  unfold Tab Lib.TabIs World.var? at *
  cases hg : Tryd.prog.globalNamed "internal/strconv.uint64pow10" with
  | none => rw [hg] at h; cases h
  | some g =>
    rw [hg] at h
    simp only [Option.bind_some] at h ⊢
    have hlt : g < w.heap.size := by
      rcases Nat.lt_or_ge g w.heap.size with h' | h'
      · exact h'
      · rw [Array.getElem?_eq_none h'] at h; cases h
    rw [hb.block g hlt]
    exact h
theorem below_grows (w : World) (os : Array Obj) : Below w.heap.size w (Sort.grow w os) :=
  ⟨rfl, rfl, rfl, by simp [Sort.grow], fun i hi => by simp [Sort.grow, Array.getElem?_append, hi]⟩
set_option maxHeartbeats 400000 in
theorem decimal_any (n : Int) (h0 : -9223372036854775808 ≤ n) (h1 : n ≤ 9223372036854775807) (w : World) (ht : Tab w) :
    Calls Tryd.prog 27 #[.int .i64 n] w fun e w' => e = .returned (.string (itoS n)) ∧ Below w.heap.size w w' := by
  go_enter Tryd.func27, Tryd.ntmps27
  go_wp2_with (go_at_call 56; refine (Tryd.strconv_FormatInt_10 n h0 h1 w ht).mono ?_; rintro e w1 ⟨rfl, k, os, rfl⟩)
  go_ret
  exact ⟨rfl, below_next (below_drawn (Below.refl _ _) _) (below_grows _ _)⟩

theorem s32 : (⟨#[32]⟩ : ByteArray).size = 1 := rfl
theorem s10 : (⟨#[10]⟩ : ByteArray).size = 1 := rfl
theorem str_add {a b c : ByteArray} (h : a ++ b = c) (hs : a.size + b.size ≤ 9223372036854775807) : ∀ w : World, (Op.stringOp .add a b).run Tryd.prog w = .ok (.string c) w := by
  intro w
  rw [← h]
  exact run_string_add_sum w a b hs

theorem IsB.later {B b : Nat} {bs : List Value} {w w' : World} (h : Lib.IsBuilderF 57 5 B b bs w) (hb : Below w.heap.size w w') : Lib.IsBuilderF 57 5 B b bs w' := by
  have key : ∀ p, Lib.BuilderAtF 57 5 B b p bs w → Lib.BuilderAtF 57 5 B b p bs w' := by
    intro p h
    have hlt := h.lt
    obtain ⟨hB, v, hbk, hown, hne⟩ := h
    refine ⟨hB, v, (hb.block b hlt).trans hbk, ?_, hne⟩
    exact hown.kept (row := none) ⟨hb.os, hb.tape, hb.output, hb.size, fun k hk _ => hb.block k hk⟩ (by cases v.ownBlock <;> simp)
  exact h.elim (fun x => .inl (key _ x)) (fun x => .inr (key _ x))
theorem kept_blk {b g : Nat} {cs : Array Value} {t : TypeId} {w w' : World} (h : Lib.OthersKept 5 (some b) w w') (hb : Blk w g cs t) (hne : g ≠ b) (ht : t ≠ 5) : Blk w' g cs t :=
  h g _ hb (by simpa using hne) (fun c fz e => by injection e with _ e2 _; exact ht e2)
theorem bytes_more (a b : ByteArray) : Lib.byteCells a.data.toList ++ Lib.strCells b = Lib.byteCells (a ++ b).data.toList := by
  rw [Lib.strCells_eq]
  unfold Lib.byteCells
  rw [← List.map_append, ByteArray.data_append, Array.toList_append]
end Go.Proofs.YtekemhibnokhcaaDoor
