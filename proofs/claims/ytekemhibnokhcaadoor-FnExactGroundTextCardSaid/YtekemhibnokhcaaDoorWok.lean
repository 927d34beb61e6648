/- An aquifer and a well: whether they are right: the walk. -/
import Derived.Test.YtekemhibnokhcaaDoorVc
namespace Go.Proofs.YtekemhibnokhcaaDoor
open Go.RowKit

def placeB (n : Int) : Bool := decide (-100 ≤ n) && decide (n ≤ 100)
def momB (t : Int) : Bool := decide (1 ≤ t) && decide (t ≤ 100000)
def wellB (X Y : Int) (R : F) : Bool := placeB X && placeB Y && plain R
/-- A bool is handed back, and nothing else is touched. -/
def RetB0 (x : Bool) (w : World) (e : Ending) (w' : World) : Prop := e = .returned (.bool x) ∧ w = w'

set_option maxHeartbeats 400000 in
theorem isPlace_any (n : Int) (w : World) : Calls Tryd.prog 62 #[.int .i64 n] w (RetB0 (placeB n) w) := by
  go_enter Tryd.func62, Tryd.ntmps62
  go_wp2_with (go_at_call 48; refine (in_any _ _ _ _).mono ?_; rintro e w' ⟨rfl, rfl⟩)
  go_ret
  exact ⟨rfl, rfl⟩
set_option maxHeartbeats 400000 in
theorem l03Place_any (n : Int) (w : World) : Calls Tryd.prog 33 #[.int .i64 n] w (RetB0 (placeB n) w) := by
  go_enter Tryd.func33, Tryd.ntmps33
  go_wp2_with (go_at_call 40; refine (l00In_any _ _ _ _).mono ?_; rintro e w' ⟨rfl, rfl⟩)
  go_ret
  exact ⟨rfl, rfl⟩

set_option maxHeartbeats 400000 in
theorem l03Plain_any (a : Nat) (w : World) : Calls Tryd.prog 34 #[.float .f32 a] w (RetB (plain (fb a)) w) := by
  have hgt := order_gt
  have hlt := order_lt
  have heq := order_eq
  go_enter Tryd.func34, Tryd.ntmps34
  go_wp2_with fail
  all_goals
    go_ret
    refine ⟨ret_bool ?_, Below.refl _ _⟩
    simp only [fbLow, fbHigh] at *
    simp [plain, fge, fle, *]

set_option maxRecDepth 100000 in
set_option maxHeartbeats 800000 in
theorem ValidWell_any (X Y : Int) (R : Nat) (w : World) (hX : -128 ≤ X ∧ X ≤ 127) (hY : -128 ≤ Y ∧ Y ≤ 127) :
    Calls Tryd.prog 38 #[.agg #[.int .i8 X, .int .i8 Y, .float .f32 R]] w (RetB (wellB X Y (fb R)) w) := by
  obtain ⟨x0, x1⟩ := hX
  obtain ⟨y0, y1⟩ := hY
  cases hpx : placeB X
  · have HX := Lib.hid hpx
    have HW : Hid (wellB X Y (fb R) = false) := by show _ = _; unfold wellB; rw [hpx]; rfl
    clear hpx
    go_enter Tryd.func38, Tryd.ntmps38
    go_wp2_with (with_reducible refine wpList_box rfl ?_)
    intro b w1 hB1 hB2 hB3 hB4
    have c0 : w1.cell? ⟨b, 0, none⟩ = some (.int .i8 X) := hB3.at rfl
    have HB := Lib.hid hB4
    clear hB3 hB4
    go_wp2_with (go_at_call 62; refine (isPlace_any X _).mono ?_; rw [HX.out]; rintro e w' ⟨rfl, rfl⟩)
    go_ret
    exact ⟨ret_bool HW.out.symm, HB.out⟩
  · cases hpy : placeB Y
    · have HX := Lib.hid hpx
      have HY := Lib.hid hpy
      have HW : Hid (wellB X Y (fb R) = false) := by show _ = _; unfold wellB; rw [hpx, hpy]; rfl
      clear hpx hpy
      go_enter Tryd.func38, Tryd.ntmps38
      go_wp2_with (with_reducible refine wpList_box rfl ?_)
      intro b w1 hB1 hB2 hB3 hB4
      have c0 : w1.cell? ⟨b, 0, none⟩ = some (.int .i8 X) := hB3.at rfl
      have c1 : w1.cell? ⟨b, 1, none⟩ = some (.int .i8 Y) := hB3.at rfl
      have HB := Lib.hid hB4
      clear hB3 hB4
      go_wp2_with (first | (go_at_call 62; refine (isPlace_any X _).mono ?_; rw [HX.out]; rintro e w' ⟨rfl, rfl⟩) | (go_at_call 62; refine (isPlace_any Y _).mono ?_; rw [HY.out]; rintro e w' ⟨rfl, rfl⟩))
      go_ret
      exact ⟨ret_bool HW.out.symm, HB.out⟩
    · have HX := Lib.hid hpx
      have HY := Lib.hid hpy
      have HW : Hid (wellB X Y (fb R) = plain (fb R)) := by show _ = _; unfold wellB; rw [hpx, hpy]; rfl
      clear hpx hpy
      go_enter Tryd.func38, Tryd.ntmps38
      go_wp2_with (with_reducible refine wpList_box rfl ?_)
      intro b w1 hB1 hB2 hB3 hB4
      have c0 : w1.cell? ⟨b, 0, none⟩ = some (.int .i8 X) := hB3.at rfl
      have c1 : w1.cell? ⟨b, 1, none⟩ = some (.int .i8 Y) := hB3.at rfl
      have c2 : w1.cell? ⟨b, 2, none⟩ = some (.float .f32 R) := hB3.at rfl
      have HB := Lib.hid hB4
      clear hB3 hB4
      go_wp2_with (first | (go_at_call 62; refine (isPlace_any X _).mono ?_; rw [HX.out]; rintro e w' ⟨rfl, rfl⟩) | (go_at_call 62; refine (isPlace_any Y _).mono ?_; rw [HY.out]; rintro e w' ⟨rfl, rfl⟩) | (go_at_call 51; refine (IsPlain_any R _).mono ?_; rintro e w2 ⟨rfl, hb2⟩))
      go_ret
      exact ⟨ret_bool HW.out.symm, below_next HB.out hb2⟩

set_option maxRecDepth 100000 in
set_option maxHeartbeats 800000 in
theorem l03Ok_any (X Y : Int) (R : Nat) (w : World) (hX : -128 ≤ X ∧ X ≤ 127) (hY : -128 ≤ Y ∧ Y ≤ 127) :
    Calls Tryd.prog 13 #[.agg #[.int .i8 X, .int .i8 Y, .float .f32 R]] w (RetB (wellB X Y (fb R)) w) := by
  obtain ⟨x0, x1⟩ := hX
  obtain ⟨y0, y1⟩ := hY
  cases hpx : placeB X
  · have HX := Lib.hid hpx
    have HW : Hid (wellB X Y (fb R) = false) := by show _ = _; unfold wellB; rw [hpx]; rfl
    clear hpx
    go_enter Tryd.func13, Tryd.ntmps13
    go_wp2_with (with_reducible refine wpList_box rfl ?_)
    intro b w1 hB1 hB2 hB3 hB4
    have c0 : w1.cell? ⟨b, 0, none⟩ = some (.int .i8 X) := hB3.at rfl
    have HB := Lib.hid hB4
    clear hB3 hB4
    go_wp2_with (go_at_call 33; refine (l03Place_any X _).mono ?_; rw [HX.out]; rintro e w' ⟨rfl, rfl⟩)
    go_ret
    exact ⟨ret_bool HW.out.symm, HB.out⟩
  · cases hpy : placeB Y
    · have HX := Lib.hid hpx
      have HY := Lib.hid hpy
      have HW : Hid (wellB X Y (fb R) = false) := by show _ = _; unfold wellB; rw [hpx, hpy]; rfl
      clear hpx hpy
      go_enter Tryd.func13, Tryd.ntmps13
      go_wp2_with (with_reducible refine wpList_box rfl ?_)
      intro b w1 hB1 hB2 hB3 hB4
      have c0 : w1.cell? ⟨b, 0, none⟩ = some (.int .i8 X) := hB3.at rfl
      have c1 : w1.cell? ⟨b, 1, none⟩ = some (.int .i8 Y) := hB3.at rfl
      have HB := Lib.hid hB4
      clear hB3 hB4
      go_wp2_with (first | (go_at_call 33; refine (l03Place_any X _).mono ?_; rw [HX.out]; rintro e w' ⟨rfl, rfl⟩) | (go_at_call 33; refine (l03Place_any Y _).mono ?_; rw [HY.out]; rintro e w' ⟨rfl, rfl⟩))
      go_ret
      exact ⟨ret_bool HW.out.symm, HB.out⟩
    · have HX := Lib.hid hpx
      have HY := Lib.hid hpy
      have HW : Hid (wellB X Y (fb R) = plain (fb R)) := by show _ = _; unfold wellB; rw [hpx, hpy]; rfl
      clear hpx hpy
      go_enter Tryd.func13, Tryd.ntmps13
      go_wp2_with (with_reducible refine wpList_box rfl ?_)
      intro b w1 hB1 hB2 hB3 hB4
      have c0 : w1.cell? ⟨b, 0, none⟩ = some (.int .i8 X) := hB3.at rfl
      have c1 : w1.cell? ⟨b, 1, none⟩ = some (.int .i8 Y) := hB3.at rfl
      have c2 : w1.cell? ⟨b, 2, none⟩ = some (.float .f32 R) := hB3.at rfl
      have HB := Lib.hid hB4
      clear hB3 hB4
      go_wp2_with (first | (go_at_call 33; refine (l03Place_any X _).mono ?_; rw [HX.out]; rintro e w' ⟨rfl, rfl⟩) | (go_at_call 33; refine (l03Place_any Y _).mono ?_; rw [HY.out]; rintro e w' ⟨rfl, rfl⟩) | (go_at_call 34; refine (l03Plain_any R _).mono ?_; rintro e w2 ⟨rfl, hb2⟩))
      go_ret
      exact ⟨ret_bool HW.out.symm, below_next HB.out hb2⟩

set_option maxRecDepth 100000 in
set_option maxHeartbeats 800000 in
theorem badWell_any (X Y : Int) (R : Nat) (w : World) (hX : -128 ≤ X ∧ X ≤ 127) (hY : -128 ≤ Y ∧ Y ≤ 127) :
    Calls Tryd.prog 17 #[.agg #[.int .i8 X, .int .i8 Y, .float .f32 R]] w (RetB (!wellB X Y (fb R)) w) := by
  go_enter Tryd.func17, Tryd.ntmps17
  go_wp2_with fail
  refine (ValidWell_any X Y R _ hX hY).mono ?_
  rintro e w2 ⟨rfl, hb2⟩
  go_wp2_with fail
  go_ret
  exact ⟨rfl, below_next ((Below.refl _ _).alloc (Nat.le_refl _) _) hb2⟩

/-- The quotient's word. -/
def SRat (_ : FuncId) (args : Array Value) (v : Value) : Prop :=
  (args = #[.int .i64 1, .int .i64 1024] ∧ v = .float .f32 981467136) ∨ (args = #[.int .i64 1, .int .i64 1048576] ∧ v = .float .f32 897581056)
theorem srat1 {f : FuncId} {v : Value} (h : SRat f #[.int .i64 1, .int .i64 1024] v) : v = .float .f32 981467136 := by
  rcases h with ⟨_, h⟩ | ⟨h, _⟩
  · exact h
  · simp at h
theorem srat2 {f : FuncId} {v : Value} (h : SRat f #[.int .i64 1, .int .i64 1048576] v) : v = .float .f32 897581056 := by
  rcases h with ⟨h, _⟩ | ⟨_, h⟩
  · simp at h
  · exact h

end Go.Proofs.YtekemhibnokhcaaDoor
