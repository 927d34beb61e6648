/- The code of an aquifer, wells, a place and times: both sides. -/
import Derived.Test.YtekemhibnokhcaaDoorWok
import Derived.Deep.MidRow
namespace Go.Proofs.YtekemhibnokhcaaDoor
open Go.RowKit

/-- A well. -/
structure We where
  x : Int
  y : Int
  r : Nat
def We.Rng (e : We) : Prop := (-128 ≤ e.x ∧ e.x ≤ 127) ∧ (-128 ≤ e.y ∧ e.y ≤ 127)
def We.cells (e : We) : List Value := [.int .i8 e.x, .int .i8 e.y, .float .f32 e.r]
def We.ok (e : We) : Bool := wellB e.x e.y (fb e.r)
/-- A list of wells that a slice shows. -/
def WAt (w : World) (v : Value) (l : List We) : Prop :=
  ∃ a cap, v = .slice a l.length cap ∧ ∀ (j : Nat) (e : We), l[j]? = some e → e.Rng ∧ ∃ g, a = some ⟨g, 0, none⟩ ∧ w.rangeAt g (j * 3) e.cells
theorem sizeWell : (Tryd.prog.info? 43).map (·.size) = some 3 := by kernel_rfl

theorem range_below {w w' : World} {b o : Nat} {cs : List Value} (h : w.rangeAt b o cs) (hb : Below w.heap.size w w') : w'.rangeAt b o cs := fun j v hv => cell_below hb (h j v hv)

/-- Only at a load. -/
theorem wpList_gateL {P : Program} {ops : Array Oper} {Q : Exit → Act → World → Prop} {rest : List Oper} {a : Act} {w : World} {dst : Option Tmp} {ty T : TypeId} {X : Operand} {pos : String} {after : Array Edge}
    (h : Gate (wpList P ops Q (⟨dst, .load T X, ty, pos, after, none⟩ :: rest) a w)) : wpList P ops Q (⟨dst, .load T X, ty, pos, after, none⟩ :: rest) a w := h

theorem take_more' {α : Type} {l : List α} {j : Nat} {c : α} (h : l[j]? = some c) : l.take (j + 1) = l.take j ++ [c] := by rw [List.take_add_one, h]; rfl

def WidxRel (l : List We) (w : World) (v8 : Value) (wr : World) : Prop := ∃ j : Nat, j ≤ l.length ∧ v8 = .int .i64 j ∧ (∀ e ∈ l.take j, e.ok = true) ∧ Below w.heap.size w wr

set_option maxRecDepth 100000 in
set_option maxHeartbeats 800000 in
theorem IndexW_any (v : Value) (l : List We) (w : World) (hlen : l.length < 9223372036854775808) (hv : WAt w v l) :
    Calls Tryd.prog 37 #[v, .func (.func 17) #[] #[]] w fun e w' => ∃ z, e = .returned (.int .i64 z) ∧ decide (0 ≤ z) = !(l.all We.ok) ∧ Below w.heap.size w w' := by
  obtain ⟨aL, cap, rfl, hL⟩ := hv
  have HL := Lib.hid hL
  clear hL
  go_enter Tryd.func37, Tryd.ntmps37
  go_wp2_with fail
  go_loopw [8] (fun v8 wr => WidxRel l w v8 wr) (fun v8 _ => l.length - (intOf v8).toNat)
  case atStart => exact ⟨0, by omega, rfl, by simp, Below.refl _ _⟩
  case round =>
    obtain ⟨j, hj, rfl, hall, hB⟩ := hrel
    have HB := Lib.hid hB
    have HALL := Lib.hid hall
    clear hB hall
    by_cases hlt : j < l.length
    · obtain ⟨e, he⟩ : ∃ e, l[j]? = some e := ⟨_, List.getElem?_eq_getElem hlt⟩
      obtain ⟨hrng, gq, rfl, hq⟩ := HL.out j e he
      have HQ := Lib.hid (range_below hq HB.out)
      have HE := Lib.hid he
      have j1 : (j : Int) < (l.length : Int) := by omega
      clear hq he
      cases hok : e.ok
      · have HOK : Hid ((!wellB e.x e.y (fb e.r)) = true) := by show (!wellB e.x e.y (fb e.r)) = true; unfold We.ok at hok; rw [hok]; rfl
        have HR : Hid (l.all We.ok = false) := by
          show _ = _
          rw [List.all_eq_false]
          exact ⟨e, List.mem_of_getElem? HE.out, by rw [hok]; decide⟩
        clear hok
        go_wp2_with (first | ((with_reducible refine wpList_gateL ?_); refine wpList_load_mid rfl _ _ rfl gq (j * 3) rfl e.cells _ HQ.out Tryd.underlying43 rfl sizeWell ?_) | (go_at_call 17; refine (badWell_any e.x e.y e.r _ hrng.1 hrng.2).mono ?_; rw [HOK.out]; rintro e2 w2 ⟨rfl, hb2⟩))
        go_ret
        exact ⟨j, rfl, by rw [HR.out]; exact decide_eq_true (by omega), below_next HB.out hb2⟩
      · have HOK : Hid ((!wellB e.x e.y (fb e.r)) = false) := by show (!wellB e.x e.y (fb e.r)) = false; unfold We.ok at hok; rw [hok]; rfl
        have HOK2 := Lib.hid hok
        clear hok
        go_wp2_with (first | ((with_reducible refine wpList_gateL ?_); refine wpList_load_mid rfl _ _ rfl gq (j * 3) rfl e.cells _ HQ.out Tryd.underlying43 rfl sizeWell ?_) | (go_at_call 17; refine (badWell_any e.x e.y e.r _ hrng.1 hrng.2).mono ?_; rw [HOK.out]; rintro e2 w2 ⟨rfl, hb2⟩))
        go_roundw
        case rel =>
          refine ⟨j + 1, by omega, by go_num, fun e' he' => ?_, below_next HB.out hb2⟩
          rw [take_more' HE.out, List.mem_append] at he'
          rcases he' with h | h
          · exact HALL.out e' h
          · rw [List.mem_singleton.1 h]; exact HOK2.out
        case measure => simp [intOf]; omega
    · have j1 : ¬ (j : Int) < (l.length : Int) := by omega
      have HR : Hid (l.all We.ok = true) := by
        show _ = _
        rw [List.all_eq_true]
        intro e he
        have := HALL.out e
        rw [List.take_of_length_le (by omega)] at this
        exact this he
      go_wp2_with fail
      go_ret
      exact ⟨-1, rfl, by rw [HR.out]; rfl, HB.out⟩

set_option maxHeartbeats 800000 in
theorem ContainsW_any (v : Value) (l : List We) (w : World) (hlen : l.length < 9223372036854775808) (hv : WAt w v l) :
    Calls Tryd.prog 16 #[v, .func (.func 17) #[] #[]] w (RetB (!(l.all We.ok)) w) := by
  go_enter Tryd.func16, Tryd.ntmps16
  go_wp2_with fail
  refine (IndexW_any v l w hlen hv).mono ?_
  rintro e w2 ⟨z, rfl, hz, hb2⟩
  go_wp2_with fail
  all_goals
    go_ret
    refine ⟨ret_bool ?_, hb2⟩
    rw [← hz]

/-- A list of times that a slice shows. -/
def TAt (w : World) (v : Value) (l : List Int) : Prop :=
  ∃ a cap, v = .slice a l.length cap ∧ ∀ (j : Nat) (t : Int), l[j]? = some t → ∃ g, a = some ⟨g, 0, none⟩ ∧ w.cell? ⟨g, j, none⟩ = some (.int .i64 t)
def TidxRel (l : List Int) (w : World) (v8 : Value) (wr : World) : Prop := ∃ j : Nat, j ≤ l.length ∧ v8 = .int .i64 j ∧ (∀ t ∈ l.take j, momB t = true) ∧ w = wr

end Go.Proofs.YtekemhibnokhcaaDoor
