/- The laws' copies of brines, and their comparison. -/
import Derived.Test.YtfcphfdfpjmgiaaBrine
import Derived.Test.YtfcphfdfpjmgiaaEqG
namespace Go.Proofs.Ytfcphfdfpjmgiaa
open Go.RowKit

section
variable {ops : Array Oper} {Q : Exit → Act → World → Prop} {rest : List Oper} {a : Act} {w : World} {dst : Option Tmp} {ty : TypeId} {X Y : Operand} {pos : String} {after : Array Edge} {B : Nat} {t : TypeId}
theorem wpList_putBG {x : Br} {g : G} (hg : Blk w B (arrB x) t) (hx : a.eval X = .pointer (some ⟨B, 0, none⟩)) (hy : a.eval Y = .agg (arrG g))
    (h : ∀ w', w'.heap.size = w.heap.size → Blk w' B (arrB { x with gr := g }) t → w.grownBy w' (some B) → wpList Try.prog ops Q rest (a.put dst undef) w') : wpList Try.prog ops Q (⟨dst, .store 30 X Y, ty, pos, after, none⟩ :: rest) a w :=
  wpList_putAt (o := 0) (by rw [arrG_size]; exact sizeG) (arrG_one g) hg (by rw [arrG_size, arrB_size]; omega) (by rw [arrB_size, arrB_size]) (fun i hi => by
    rw [arrB_size] at hi
    rw [arrB_get _ hi, arrB_get _ hi, arrG_size]
    unfold Br.cell
    by_cases h1 : i < 195
    · rw [if_pos h1, if_pos (by omega), arrG_get _ (by omega)]; rfl
    · rw [if_neg (show ¬ (0 ≤ i ∧ i < 0 + 195) by omega)]
      simp only [if_neg h1]) hx hy h
theorem wpList_putBS {x : Br} {f : Nat → Nat} (hg : Blk w B (arrB x) t) (hx : a.eval X = .pointer (some ⟨B, 195, none⟩)) (hy : a.eval Y = .agg (arrF f))
    (h : ∀ w', w'.heap.size = w.heap.size → Blk w' B (arrB { x with s := f }) t → w.grownBy w' (some B) → wpList Try.prog ops Q rest (a.put dst undef) w') : wpList Try.prog ops Q (⟨dst, .store 27 X Y, ty, pos, after, none⟩ :: rest) a w :=
  wpList_putAt (o := 195) (by rw [arrF_size]; exact sizeF) (arrF_one f) hg (by rw [arrF_size, arrB_size]; omega) (by rw [arrB_size, arrB_size]) (fun i hi => by
    rw [arrB_size] at hi
    rw [arrB_get _ hi, arrB_get _ hi, arrF_size]
    unfold Br.cell
    by_cases h1 : i < 195
    · rw [if_pos h1, if_pos h1, if_neg (by omega)]
    · rw [if_neg h1, if_neg h1]
      by_cases h2 : i < 259
      · rw [if_pos h2, if_pos (by omega), arrF_get _ (by omega)]
      · rw [if_neg (show ¬ (195 ≤ i ∧ i < 195 + 64) by omega)]
        simp only [if_neg h2]) hx hy h
theorem wpList_putBP {x : Br} {f : Nat → Nat} (hg : Blk w B (arrB x) t) (hx : a.eval X = .pointer (some ⟨B, 259, none⟩)) (hy : a.eval Y = .agg (arrF f))
    (h : ∀ w', w'.heap.size = w.heap.size → Blk w' B (arrB { x with p := f }) t → w.grownBy w' (some B) → wpList Try.prog ops Q rest (a.put dst undef) w') : wpList Try.prog ops Q (⟨dst, .store 27 X Y, ty, pos, after, none⟩ :: rest) a w :=
  wpList_putAt (o := 259) (by rw [arrF_size]; exact sizeF) (arrF_one f) hg (by rw [arrF_size, arrB_size]; omega) (by rw [arrB_size, arrB_size]) (fun i hi => by
    rw [arrB_size] at hi
    rw [arrB_get _ hi, arrB_get _ hi, arrF_size]
    unfold Br.cell
    by_cases h1 : i < 195
    · rw [if_pos h1, if_pos h1, if_neg (by omega)]
    · rw [if_neg h1, if_neg h1]
      by_cases h2 : i < 259
      · rw [if_pos h2, if_pos h2, if_neg (by omega)]
      · rw [if_neg h2, if_neg h2]
        by_cases h3 : i < 323
        · rw [if_pos h3, if_pos (by omega), arrF_get _ (by omega)]
        · rw [if_neg (show ¬ (259 ≤ i ∧ i < 259 + 64) by omega)]
          simp only [if_neg h3]) hx hy h
theorem cell_setR (x : Br) (r : Nat) {i : Nat} (hi : i < 324) : Br.cell { x with room := r } i = if i = 323 then .float .f32 r else x.cell i := by
  unfold Br.cell
  by_cases e : i = 323
  · subst e; rfl
  · rw [if_neg e]
    by_cases h1 : i < 195
    · rw [if_pos h1, if_pos h1]
    · rw [if_neg h1, if_neg h1]
      by_cases h2 : i < 259
      · rw [if_pos h2, if_pos h2]
      · rw [if_neg h2, if_neg h2, if_pos (by omega), if_pos (by omega)]
theorem wpList_putBR {x : Br} {r : Nat} (hg : Blk w B (arrB x) t) (hx : a.eval X = .pointer (some ⟨B, 323, none⟩)) (hy : a.eval Y = .float .f32 r)
    (h : ∀ w', w'.heap.size = w.heap.size → Blk w' B (arrB { x with room := r }) t → w.grownBy w' (some B) → wpList Try.prog ops Q rest (a.put dst undef) w') : wpList Try.prog ops Q (⟨dst, .store 25 X Y, ty, pos, after, none⟩ :: rest) a w :=
  wpList_put1 size32 hg (by rw [arrB_size]; omega) hx hy rfl rfl (by rw [arrB_set1 (by omega) fun i hi => cell_setR x r hi]; exact h)
end

theorem BAt.grown {w w' : World} {b r : Nat} {x : Br} (h : BAt w b x) (hg : w.grownBy w' (some r)) (hne : b ≠ r) : BAt w' b x := fun i hi => cell_grown (h i hi) hg hne

end Go.Proofs.Ytfcphfdfpjmgiaa
