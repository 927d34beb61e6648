/- Grounds in memory, and the small functions of the program on them. -/
import Derived.Test.YtekemhibnokhcaaDoorRows
import Derived.Test.YtekemhibnokhcaaDoorSoft
namespace Go.Proofs.YtekemhibnokhcaaDoor
open Go.RowKit

/-- A ground's data: floats by their bits. -/
structure G where
  wide : Int
  high : Int
  c : Nat → Nat
  g : Nat → Nat
  h : Nat → Nat
  fixed : Int

def G.cell (g : G) (i : Nat) : Value :=
  if i = 0 then .int .i8 g.wide else if i = 1 then .int .i8 g.high else if i < 66 then .float .f32 (g.c (i - 2)) else if i < 130 then .float .f32 (g.g (i - 66))
  else if i < 194 then .float .f32 (g.h (i - 130)) else .int .u64 g.fixed

/-- The numbers of a field, by a field's bits. -/
def fm (f : Nat → Nat) (i : Nat) : F := if i < 64 then fb (f i) else none
theorem fm_of {f : Nat → Nat} {i : Nat} (h : i < 64) : fm f i = fb (f i) := if_pos h
theorem fm_out {f : Nat → Nat} {i : Nat} (h : ¬ i < 64) : fm f i = none := if_neg h
def upd {α : Type} (f : Nat → α) (k : Nat) (v : α) (i : Nat) : α := if i = k then v else f i
theorem fm_upd {f : Nat → Nat} {k : Nat} (hk : k < 64) (r : Nat) : fm (upd f k r) = upd (fm f) k (fb r) := by
  funext i
  unfold fm upd
  by_cases h : i = k
  · subst h; simp [hk]
  · simp [h]

/-- A ground as numbers. -/
structure M where
  wide : Int
  high : Int
  c : Nat → F
  g : Nat → F
  h : Nat → F
  fixed : Int
def G.m (g : G) : M := ⟨g.wide, g.high, fm g.c, fm g.g, fm g.h, g.fixed⟩

/-- A ground's cells as one row. -/
def arrG (g : G) : Array Value := Array.ofFn (n := 195) fun i => g.cell i
theorem arrG_size (g : G) : (arrG g).size = 195 := by simp [arrG]
theorem arrG_get (g : G) {i : Nat} (h : i < 195) : (arrG g)[i]? = some (g.cell i) := by simp [arrG, h]
theorem arrG_one (g : G) : (arrG g).all (·.oneCell') = true := by
  rw [Array.all_eq_true]
  intro i hi
  simp only [arrG, Array.getElem_ofFn]
  unfold G.cell
  repeat (first | rfl | split)
theorem cell_setH (g : G) {k : Nat} (hk : k < 64) (r i : Nat) : G.cell { g with h := upd g.h k r } i = if i = 130 + k then .float .f32 r else g.cell i := by
  unfold G.cell upd
  by_cases h1 : i < 194 ∧ 130 ≤ i
  · obtain ⟨p1, p2⟩ := h1
    have n0 : ¬ i = 0 := by omega
    have n1 : ¬ i = 1 := by omega
    have n2 : ¬ i < 66 := by omega
    have n3 : ¬ i < 130 := by omega
    simp only [n0, n1, n2, n3, p1, if_false, if_true]
    by_cases e : i = 130 + k
    · rw [if_pos e, if_pos (by omega)]
    · rw [if_neg e, if_neg (by omega)]
  · rw [if_neg (by omega : ¬ i = 130 + k)]
    repeat' (first | (exfalso; omega) | split | rfl)
theorem arrG_setH (g : G) {k : Nat} (hk : k < 64) (r : Nat) : (arrG g).setIfInBounds (130 + k) (.float .f32 r) = arrG { g with h := upd g.h k r } := by
  apply Array.ext_getElem?
  intro i
  rw [Array.getElem?_setIfInBounds]
  by_cases h : i < 195
  · rw [arrG_get _ h, arrG_get _ h, cell_setH g hk, arrG_size]
    by_cases e : 130 + k = i
    · rw [if_pos e, if_pos (by omega), if_pos e.symm]
    · rw [if_neg e, if_neg (by omega)]
  · rw [if_neg (by omega), Array.getElem?_eq_none (by rw [arrG_size]; omega), Array.getElem?_eq_none (by rw [arrG_size]; omega)]

/-- A field's cells as one row. -/
def arrF (f : Nat → Nat) : Array Value := Array.ofFn (n := 64) fun i => .float .f32 (f i)
theorem arrF_size (f : Nat → Nat) : (arrF f).size = 64 := by simp [arrF]
theorem arrF_get (f : Nat → Nat) {i : Nat} (h : i < 64) : (arrF f)[i]? = some (.float .f32 (f i)) := by simp [arrF, h]
theorem arrF_one (f : Nat → Nat) : (arrF f).all (·.oneCell') = true := by
  rw [Array.all_eq_true]
  intro i hi
  simp only [arrF, Array.getElem_ofFn]
  rfl
theorem arrF_set (f : Nat → Nat) (k r : Nat) : (arrF f).setIfInBounds k (.float .f32 r) = arrF (upd f k r) := by
  apply Array.ext_getElem?
  intro i
  rw [Array.getElem?_setIfInBounds]
  by_cases h : i < 64
  · rw [arrF_get _ h, arrF_get _ h, arrF_size]
    unfold upd
    by_cases e : k = i
    · rw [if_pos e, if_pos (by omega), if_pos e.symm]
    · rw [if_neg e, if_neg (fun x => e x.symm)]
  · rw [Array.getElem?_eq_none (xs := arrF (upd f k r)) (by rw [arrF_size]; omega)]
    split
    · rw [if_neg (by rw [arrF_size]; omega)]
    · rw [Array.getElem?_eq_none (by rw [arrF_size]; omega)]

/-- A block of the world. -/
def Blk (w : World) (b : Nat) (cs : Array Value) (t : TypeId) : Prop := w.heap[b]? = some (.cells cs t (0, 0))

/-- A ground lies at an address. -/
def GAt (w : World) (b o : Nat) (g : G) : Prop := ∀ i, i < 195 → w.cell? ⟨b, o + i, none⟩ = some (g.cell i)

theorem GAt.wide {w : World} {b o : Nat} {g : G} (h : GAt w b o g) : w.cell? ⟨b, o, none⟩ = some (.int .i8 g.wide) := h 0 (by omega)
theorem GAt.high {w : World} {b o : Nat} {g : G} (h : GAt w b o g) : w.cell? ⟨b, o + 1, none⟩ = some (.int .i8 g.high) := h 1 (by omega)
theorem GAt.c {w : World} {b o : Nat} {g : G} (h : GAt w b o g) {k : Nat} (hk : k < 64) : w.cell? ⟨b, o + 2 + k, none⟩ = some (.float .f32 (g.c k)) := by
  have := h (2 + k) (by omega)
  rw [← Nat.add_assoc] at this
  rw [this]; unfold G.cell
  rw [if_neg (by omega), if_neg (by omega), if_pos (by omega), Nat.add_sub_cancel_left]
theorem GAt.g {w : World} {b o : Nat} {g : G} (h : GAt w b o g) {k : Nat} (hk : k < 64) : w.cell? ⟨b, o + 66 + k, none⟩ = some (.float .f32 (g.g k)) := by
  have := h (66 + k) (by omega)
  rw [← Nat.add_assoc] at this
  rw [this]; unfold G.cell
  rw [if_neg (by omega), if_neg (by omega), if_neg (by omega), if_pos (by omega), Nat.add_sub_cancel_left]
theorem GAt.h {w : World} {b o : Nat} {g : G} (h : GAt w b o g) {k : Nat} (hk : k < 64) : w.cell? ⟨b, o + 130 + k, none⟩ = some (.float .f32 (g.h k)) := by
  have := h (130 + k) (by omega)
  rw [← Nat.add_assoc] at this
  rw [this]; unfold G.cell
  rw [if_neg (by omega), if_neg (by omega), if_neg (by omega), if_neg (by omega), if_pos (by omega), Nat.add_sub_cancel_left]
theorem GAt.fixed {w : World} {b o : Nat} {g : G} (h : GAt w b o g) : w.cell? ⟨b, o + 194, none⟩ = some (.int .u64 g.fixed) := h 194 (by omega)

theorem GAt.of_blk {w : World} {b : Nat} {g : G} {t : TypeId} (h : Blk w b (arrG g) t) : GAt w b 0 g := fun i hi => by
  rw [Nat.zero_add, cell_of_row w b i _ t _ h, arrG_get g hi]

/-- The cell beside a cell; -1 where there is none. -/
def besideXY (W H x y : Int) : Int := if x < 0 ∨ y < 0 ∨ W ≤ x ∨ H ≤ y then -1 else x + 8 * y
def beside (W H : Int) (k s : Nat) : Int :=
  let x : Int := (k % 8 : Nat)
  let y : Int := (k / 8 : Nat)
  if s = 0 then besideXY W H x (y - 1) else if s = 1 then besideXY W H (x + 1) y else if s = 2 then besideXY W H x (y + 1) else besideXY W H (x - 1) y

/-- The sides of a ground are those of small numbers. -/
def G.Rng (g : G) : Prop := (-128 ≤ g.wide ∧ g.wide ≤ 127) ∧ (-128 ≤ g.high ∧ g.high ≤ 127)

theorem ret_int {k : IntKind} {a b : Int} (h : a = b) : Ending.returned (.int k a) = .returned (.int k b) := by rw [h]
theorem ret_bool {a b : Bool} (h : a = b) : Ending.returned (.bool a) = .returned (.bool b) := by rw [h]

def hasB (W H : Int) (k : Nat) : Bool := decide (((k % 8 : Nat) : Int) < W) && decide (((k / 8 : Nat) : Int) < H)

set_option maxHeartbeats 400000 in
theorem has_any (b o k : Nat) (g : G) (w : World) (hk : k < 64) (hr : g.Rng) (hg : GAt w b o g) :
    Calls Tryd.prog 53 #[.pointer (some ⟨b, o, none⟩), .int .i64 k] w fun e w' => e = .returned (.bool (hasB g.wide g.high k)) ∧ w = w' := by
  have h0 := hg.wide
  have h1 := hg.high
  obtain ⟨⟨r0, r1⟩, ⟨r2, r3⟩⟩ := hr
  clear hg
  unfold hasB
  go_enter Tryd.func53, Tryd.ntmps53
  go_wp2_with fail
  all_goals
    go_ret
    exact ⟨ret_bool (by simp; omega), rfl⟩

end Go.Proofs.YtekemhibnokhcaaDoor
