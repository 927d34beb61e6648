/- An aquifer and a well: whether they are right: the walk. -/
import Derived.Test.YtonmdkhfongmhaaWell
namespace Go.Proofs.Ytonmdkhfongmhaa
open Go.RowKit

def placeB (n : Int) : Bool := decide (-100 ≤ n) && decide (n ≤ 100)
def momB (t : Int) : Bool := decide (1 ≤ t) && decide (t ≤ 100000)
def wellB (X Y : Int) (R : F) : Bool := placeB X && placeB Y && plain R
/-- A bool is handed back, and nothing else is touched. -/
def RetB0 (x : Bool) (w : World) (e : Ending) (w' : World) : Prop := e = .returned (.bool x) ∧ w = w'

set_option maxHeartbeats 400000 in
theorem isPlace_any (n : Int) (w : World) : Calls Try.prog 103 #[.int .i64 n] w (RetB0 (placeB n) w) := by
  go_enter Try.func103, Try.ntmps103
  go_wp2_with (go_at_call 80; refine (in_any _ _ _ _).mono ?_; rintro e w' ⟨rfl, rfl⟩)
  go_ret
  exact ⟨rfl, rfl⟩
set_option maxHeartbeats 400000 in
theorem l03Place_any (n : Int) (w : World) : Calls Try.prog 100 #[.int .i64 n] w (RetB0 (placeB n) w) := by
  go_enter Try.func100, Try.ntmps100
  go_wp2_with (go_at_call 70; refine (l00In_any _ _ _ _).mono ?_; rintro e w' ⟨rfl, rfl⟩)
  go_ret
  exact ⟨rfl, rfl⟩
set_option maxHeartbeats 400000 in
theorem isMoment_any (n : Int) (w : World) : Calls Try.prog 104 #[.int .i64 n] w (RetB0 (momB n) w) := by
  go_enter Try.func104, Try.ntmps104
  go_wp2_with (go_at_call 80; refine (in_any _ _ _ _).mono ?_; rintro e w' ⟨rfl, rfl⟩)
  go_ret
  exact ⟨rfl, rfl⟩

set_option maxHeartbeats 400000 in
theorem l03Plain_any (a : Nat) (w : World) : Calls Try.prog 117 #[.float .f32 a] w (RetB (plain (fb a)) w) := by
  have hgt := order_gt
  have hlt := order_lt
  have heq := order_eq
  go_enter Try.func117, Try.ntmps117
  go_wp2_with fail
  all_goals
    go_ret
    refine ⟨ret_bool ?_, Below.refl _ _⟩
    simp only [fbLow, fbHigh] at *
    simp [plain, fge, fle, *]

set_option maxRecDepth 100000 in
set_option maxHeartbeats 800000 in
theorem ValidWell_any (X Y : Int) (R : Nat) (w : World) (hX : -128 ≤ X ∧ X ≤ 127) (hY : -128 ≤ Y ∧ Y ≤ 127) :
    Calls Try.prog 102 #[.agg #[.int .i8 X, .int .i8 Y, .float .f32 R]] w (RetB (wellB X Y (fb R)) w) := by
  obtain ⟨x0, x1⟩ := hX
  obtain ⟨y0, y1⟩ := hY
  cases hpx : placeB X
  · have HX := Lib.hid hpx
    have HW : Hid (wellB X Y (fb R) = false) := by show _ = _; unfold wellB; rw [hpx]; rfl
    clear hpx
    go_enter Try.func102, Try.ntmps102
    go_wp2_with (with_reducible refine wpList_box rfl ?_)
    intro b w1 hB1 hB2 hB3 hB4
    have c0 : w1.cell? ⟨b, 0, none⟩ = some (.int .i8 X) := hB3.at rfl
    have HB := Lib.hid hB4
    clear hB3 hB4
    go_wp2_with (go_at_call 103; refine (isPlace_any X _).mono ?_; rw [HX.out]; rintro e w' ⟨rfl, rfl⟩)
    go_ret
    exact ⟨ret_bool HW.out.symm, HB.out⟩
  · cases hpy : placeB Y
    · have HX := Lib.hid hpx
      have HY := Lib.hid hpy
      have HW : Hid (wellB X Y (fb R) = false) := by show _ = _; unfold wellB; rw [hpx, hpy]; rfl
      clear hpx hpy
      go_enter Try.func102, Try.ntmps102
      go_wp2_with (with_reducible refine wpList_box rfl ?_)
      intro b w1 hB1 hB2 hB3 hB4
      have c0 : w1.cell? ⟨b, 0, none⟩ = some (.int .i8 X) := hB3.at rfl
      have c1 : w1.cell? ⟨b, 1, none⟩ = some (.int .i8 Y) := hB3.at rfl
      have HB := Lib.hid hB4
      clear hB3 hB4
      go_wp2_with (first | (go_at_call 103; refine (isPlace_any X _).mono ?_; rw [HX.out]; rintro e w' ⟨rfl, rfl⟩) | (go_at_call 103; refine (isPlace_any Y _).mono ?_; rw [HY.out]; rintro e w' ⟨rfl, rfl⟩))
      go_ret
      exact ⟨ret_bool HW.out.symm, HB.out⟩
    · have HX := Lib.hid hpx
      have HY := Lib.hid hpy
      have HW : Hid (wellB X Y (fb R) = plain (fb R)) := by show _ = _; unfold wellB; rw [hpx, hpy]; rfl
      clear hpx hpy
      go_enter Try.func102, Try.ntmps102
      go_wp2_with (with_reducible refine wpList_box rfl ?_)
      intro b w1 hB1 hB2 hB3 hB4
      have c0 : w1.cell? ⟨b, 0, none⟩ = some (.int .i8 X) := hB3.at rfl
      have c1 : w1.cell? ⟨b, 1, none⟩ = some (.int .i8 Y) := hB3.at rfl
      have c2 : w1.cell? ⟨b, 2, none⟩ = some (.float .f32 R) := hB3.at rfl
      have HB := Lib.hid hB4
      clear hB3 hB4
      go_wp2_with (first | (go_at_call 103; refine (isPlace_any X _).mono ?_; rw [HX.out]; rintro e w' ⟨rfl, rfl⟩) | (go_at_call 103; refine (isPlace_any Y _).mono ?_; rw [HY.out]; rintro e w' ⟨rfl, rfl⟩) | (go_at_call 120; refine (IsPlain_any R _).mono ?_; rintro e w2 ⟨rfl, hb2⟩))
      go_ret
      exact ⟨ret_bool HW.out.symm, below_next HB.out hb2⟩

set_option maxRecDepth 100000 in
set_option maxHeartbeats 800000 in
theorem l03Ok_any (X Y : Int) (R : Nat) (w : World) (hX : -128 ≤ X ∧ X ≤ 127) (hY : -128 ≤ Y ∧ Y ≤ 127) :
    Calls Try.prog 99 #[.agg #[.int .i8 X, .int .i8 Y, .float .f32 R]] w (RetB (wellB X Y (fb R)) w) := by
  obtain ⟨x0, x1⟩ := hX
  obtain ⟨y0, y1⟩ := hY
  cases hpx : placeB X
  · have HX := Lib.hid hpx
    have HW : Hid (wellB X Y (fb R) = false) := by show _ = _; unfold wellB; rw [hpx]; rfl
    clear hpx
    go_enter Try.func99, Try.ntmps99
    go_wp2_with (with_reducible refine wpList_box rfl ?_)
    intro b w1 hB1 hB2 hB3 hB4
    have c0 : w1.cell? ⟨b, 0, none⟩ = some (.int .i8 X) := hB3.at rfl
    have HB := Lib.hid hB4
    clear hB3 hB4
    go_wp2_with (go_at_call 100; refine (l03Place_any X _).mono ?_; rw [HX.out]; rintro e w' ⟨rfl, rfl⟩)
    go_ret
    exact ⟨ret_bool HW.out.symm, HB.out⟩
  · cases hpy : placeB Y
    · have HX := Lib.hid hpx
      have HY := Lib.hid hpy
      have HW : Hid (wellB X Y (fb R) = false) := by show _ = _; unfold wellB; rw [hpx, hpy]; rfl
      clear hpx hpy
      go_enter Try.func99, Try.ntmps99
      go_wp2_with (with_reducible refine wpList_box rfl ?_)
      intro b w1 hB1 hB2 hB3 hB4
      have c0 : w1.cell? ⟨b, 0, none⟩ = some (.int .i8 X) := hB3.at rfl
      have c1 : w1.cell? ⟨b, 1, none⟩ = some (.int .i8 Y) := hB3.at rfl
      have HB := Lib.hid hB4
      clear hB3 hB4
      go_wp2_with (first | (go_at_call 100; refine (l03Place_any X _).mono ?_; rw [HX.out]; rintro e w' ⟨rfl, rfl⟩) | (go_at_call 100; refine (l03Place_any Y _).mono ?_; rw [HY.out]; rintro e w' ⟨rfl, rfl⟩))
      go_ret
      exact ⟨ret_bool HW.out.symm, HB.out⟩
    · have HX := Lib.hid hpx
      have HY := Lib.hid hpy
      have HW : Hid (wellB X Y (fb R) = plain (fb R)) := by show _ = _; unfold wellB; rw [hpx, hpy]; rfl
      clear hpx hpy
      go_enter Try.func99, Try.ntmps99
      go_wp2_with (with_reducible refine wpList_box rfl ?_)
      intro b w1 hB1 hB2 hB3 hB4
      have c0 : w1.cell? ⟨b, 0, none⟩ = some (.int .i8 X) := hB3.at rfl
      have c1 : w1.cell? ⟨b, 1, none⟩ = some (.int .i8 Y) := hB3.at rfl
      have c2 : w1.cell? ⟨b, 2, none⟩ = some (.float .f32 R) := hB3.at rfl
      have HB := Lib.hid hB4
      clear hB3 hB4
      go_wp2_with (first | (go_at_call 100; refine (l03Place_any X _).mono ?_; rw [HX.out]; rintro e w' ⟨rfl, rfl⟩) | (go_at_call 100; refine (l03Place_any Y _).mono ?_; rw [HY.out]; rintro e w' ⟨rfl, rfl⟩) | (go_at_call 117; refine (l03Plain_any R _).mono ?_; rintro e w2 ⟨rfl, hb2⟩))
      go_ret
      exact ⟨ret_bool HW.out.symm, below_next HB.out hb2⟩

set_option maxRecDepth 100000 in
set_option maxHeartbeats 800000 in
theorem ValidAquifer_any (T S : Nat) (w : World) : Calls Try.prog 73 #[.agg #[.float .f32 T, .float .f32 S]] w (RetB (okA (fb T) (fb S)) w) := by
  have hgt := order_gt
  have hlt := order_lt
  have heq := order_eq
  go_enter Try.func73, Try.ntmps73
  go_wp2_with (with_reducible refine wpList_box rfl ?_)
  intro b w1 hB1 hB2 hB3 hB4
  have c0 : w1.cell? ⟨b, 0, none⟩ = some (.float .f32 T) := hB3.at rfl
  have c1 : w1.cell? ⟨b, 1, none⟩ = some (.float .f32 S) := hB3.at rfl
  have HB := Lib.hid hB4
  clear hB3 hB4
  go_wp2_with fail
  all_goals
    go_ret
    refine ⟨ret_bool ?_, HB.out⟩
    simp [okA, fge, fle, one, *]

/-- A quotient of two whole numbers that is known. -/
theorem Ratio_known (a b : Int) (r : Nat) (w : World) (h : fdiv (ofI a) (ofI b) = some r) : Calls Try.prog 90 #[.int .i64 a, .int .i64 b] w fun e w' => e = .returned (.float .f32 r) ∧ w = w' := by
  have hq : floatBits .quo .f32 (floatOfInt .f32 a) (floatOfInt .f32 b) = some r := by
    rw [← fb_ofI, ← fb_ofI, fdiv_fb] at h
    exact h
  have hr := fun w' => run_float_arith (P := Try.prog) w' .quo 24 .f32 _ _ _ hq
  clear hq h
  go_enter Try.func90, Try.ntmps90
  go_wp2_with fail
  go_ret
  exact ⟨rfl, rfl⟩

/-- The quotient's word. -/
def SRat (_ : FuncId) (args : Array Value) (v : Value) : Prop :=
  (args = #[.int .i64 1, .int .i64 1024] ∧ v = .float .f32 981467136) ∨ (args = #[.int .i64 1, .int .i64 1048576] ∧ v = .float .f32 897581056)
theorem srat1 {f : FuncId} {v : Value} (h : SRat f #[.int .i64 1, .int .i64 1024] v) : v = .float .f32 981467136 := by
  rcases h with ⟨_, h⟩ | ⟨h, _⟩
  · exact h
  · simp at h
theorem srat2 {f : FuncId} {v : Value} (h : SRat f #[.int .i64 1, .int .i64 1048576] v) : v = .float .f32 897581056 := by
  rcases h with ⟨h, _⟩ | ⟨_, h⟩
  · simp at h
  · exact h

set_option maxRecDepth 100000 in
set_option maxHeartbeats 6400000 in
theorem l03Aquifer_any (T S : Nat) (w : World) : Calls Try.prog 68 #[.agg #[.float .f32 T, .float .f32 S]] w (RetB (okA (fb T) (fb S)) w) := by
  have hgt := order_gt
  have hlt := order_lt
  have heq := order_eq
  have K1 : Hid (fdiv (ofI 1) (ofI 1024) = some 981467136) := by show _ = _; decide +kernel
  have K2 : Hid (fdiv (ofI 1) (ofI 1048576) = some 897581056) := by show _ = _; decide +kernel
  obtain ⟨p1, h1⟩ : ∃ p, (fgt (fb T) (fb 981467136) || feq (fb T) (fb 981467136)) = p := ⟨_, rfl⟩
  obtain ⟨p2, h2⟩ : ∃ p, (flt (fb T) (fb 1233125376) || feq (fb T) (fb 1233125376)) = p := ⟨_, rfl⟩
  obtain ⟨p3, h3⟩ : ∃ p, (fgt (fb S) (fb 897581056) || feq (fb S) (fb 897581056)) = p := ⟨_, rfl⟩
  obtain ⟨p4, h4⟩ : ∃ p, (flt (fb S) (fb 1065353216) || feq (fb S) (fb 1065353216)) = p := ⟨_, rfl⟩
  have HW : Hid (okA (fb T) (fb S) = (p1 && p2 && p3 && p4)) := by show (_ && _ && _ && _) = _; unfold fge fle one; rw [h1, h2, h3, h4]
  go_enter Try.func68, Try.ntmps68
  go_wp2_with (with_reducible refine wpList_box rfl ?_)
  intro b w1 hB1 hB2 hB3 hB4
  have c0 := fun z => ext_cell w1 z (hB3.at (i := 0) rfl)
  have c1 := fun z => ext_cell w1 z (hB3.at (i := 1) rfl)
  have HB := Lib.hid hB4
  clear hB3 hB4
  go_wp2_with fail
  refine wp_soft SRat (by kernel_rfl) (by kernel_rfl) ?_
  cases p1
  · clear h2 h3 h4
    have HW2 : Hid (okA (fb T) (fb S) = false) := HW.out
    repeat (first | (refine soft_step (fun K hK => ?_); go_simp; (try go_bits); refine hK _ ?_; clear hK K) | (refine soft_step (fun K hK => ?_); go_simp; refine ⟨_, _, ⟨rfl, rfl⟩, fun x => ?_, ?_⟩; ((with_reducible refine (Ratio_known 1 1024 _ _ K1.out).mono ?_); rintro e w1 ⟨he, rfl⟩; exact ⟨_, he, .inl ⟨rfl, rfl⟩, Below.refl _ _⟩); rintro v hv; obtain rfl := srat1 hv; refine hK _ ?_; clear hK K) | (refine soft_step (fun K hK => ?_); go_simp; refine ⟨_, _, ⟨rfl, rfl⟩, fun x => ?_, ?_⟩; ((with_reducible refine (Ratio_known 1 1048576 _ _ K2.out).mono ?_); rintro e w1 ⟨he, rfl⟩; exact ⟨_, he, .inr ⟨rfl, rfl⟩, Below.refl _ _⟩); rintro v hv; obtain rfl := srat2 hv; refine hK _ ?_; clear hK K))
    refine soft_nil ?_
    rintro w5 hw5
    have HB5 := Lib.hid (below_next HB.out hw5.below)
    clear hw5
    go_wp2_with fail
    go_ret
    exact ⟨ret_bool HW2.out.symm, HB5.out⟩
  · cases p2
    · clear h3 h4
      have HW2 : Hid (okA (fb T) (fb S) = false) := HW.out
      repeat (first | (refine soft_step (fun K hK => ?_); go_simp; (try go_bits); refine hK _ ?_; clear hK K) | (refine soft_step (fun K hK => ?_); go_simp; refine ⟨_, _, ⟨rfl, rfl⟩, fun x => ?_, ?_⟩; ((with_reducible refine (Ratio_known 1 1024 _ _ K1.out).mono ?_); rintro e w1 ⟨he, rfl⟩; exact ⟨_, he, .inl ⟨rfl, rfl⟩, Below.refl _ _⟩); rintro v hv; obtain rfl := srat1 hv; refine hK _ ?_; clear hK K) | (refine soft_step (fun K hK => ?_); go_simp; refine ⟨_, _, ⟨rfl, rfl⟩, fun x => ?_, ?_⟩; ((with_reducible refine (Ratio_known 1 1048576 _ _ K2.out).mono ?_); rintro e w1 ⟨he, rfl⟩; exact ⟨_, he, .inr ⟨rfl, rfl⟩, Below.refl _ _⟩); rintro v hv; obtain rfl := srat2 hv; refine hK _ ?_; clear hK K))
      refine soft_nil ?_
      rintro w5 hw5
      have HB5 := Lib.hid (below_next HB.out hw5.below)
      clear hw5
      go_wp2_with fail
      go_ret
      exact ⟨ret_bool HW2.out.symm, HB5.out⟩
    · cases p3
      · clear h4
        have HW2 : Hid (okA (fb T) (fb S) = false) := HW.out
        repeat (first | (refine soft_step (fun K hK => ?_); go_simp; (try go_bits); refine hK _ ?_; clear hK K) | (refine soft_step (fun K hK => ?_); go_simp; refine ⟨_, _, ⟨rfl, rfl⟩, fun x => ?_, ?_⟩; ((with_reducible refine (Ratio_known 1 1024 _ _ K1.out).mono ?_); rintro e w1 ⟨he, rfl⟩; exact ⟨_, he, .inl ⟨rfl, rfl⟩, Below.refl _ _⟩); rintro v hv; obtain rfl := srat1 hv; refine hK _ ?_; clear hK K) | (refine soft_step (fun K hK => ?_); go_simp; refine ⟨_, _, ⟨rfl, rfl⟩, fun x => ?_, ?_⟩; ((with_reducible refine (Ratio_known 1 1048576 _ _ K2.out).mono ?_); rintro e w1 ⟨he, rfl⟩; exact ⟨_, he, .inr ⟨rfl, rfl⟩, Below.refl _ _⟩); rintro v hv; obtain rfl := srat2 hv; refine hK _ ?_; clear hK K))
        refine soft_nil ?_
        rintro w5 hw5
        have HB5 := Lib.hid (below_next HB.out hw5.below)
        clear hw5
        go_wp2_with fail
        go_ret
        exact ⟨ret_bool HW2.out.symm, HB5.out⟩
      · cases p4
        · skip
          have HW2 : Hid (okA (fb T) (fb S) = false) := HW.out
          repeat (first | (refine soft_step (fun K hK => ?_); go_simp; (try go_bits); refine hK _ ?_; clear hK K) | (refine soft_step (fun K hK => ?_); go_simp; refine ⟨_, _, ⟨rfl, rfl⟩, fun x => ?_, ?_⟩; ((with_reducible refine (Ratio_known 1 1024 _ _ K1.out).mono ?_); rintro e w1 ⟨he, rfl⟩; exact ⟨_, he, .inl ⟨rfl, rfl⟩, Below.refl _ _⟩); rintro v hv; obtain rfl := srat1 hv; refine hK _ ?_; clear hK K) | (refine soft_step (fun K hK => ?_); go_simp; refine ⟨_, _, ⟨rfl, rfl⟩, fun x => ?_, ?_⟩; ((with_reducible refine (Ratio_known 1 1048576 _ _ K2.out).mono ?_); rintro e w1 ⟨he, rfl⟩; exact ⟨_, he, .inr ⟨rfl, rfl⟩, Below.refl _ _⟩); rintro v hv; obtain rfl := srat2 hv; refine hK _ ?_; clear hK K))
          refine soft_nil ?_
          rintro w5 hw5
          have HB5 := Lib.hid (below_next HB.out hw5.below)
          clear hw5
          go_wp2_with fail
          go_ret
          exact ⟨ret_bool HW2.out.symm, HB5.out⟩
        · skip
          have HW2 : Hid (okA (fb T) (fb S) = true) := HW.out
          repeat (first | (refine soft_step (fun K hK => ?_); go_simp; (try go_bits); refine hK _ ?_; clear hK K) | (refine soft_step (fun K hK => ?_); go_simp; refine ⟨_, _, ⟨rfl, rfl⟩, fun x => ?_, ?_⟩; ((with_reducible refine (Ratio_known 1 1024 _ _ K1.out).mono ?_); rintro e w1 ⟨he, rfl⟩; exact ⟨_, he, .inl ⟨rfl, rfl⟩, Below.refl _ _⟩); rintro v hv; obtain rfl := srat1 hv; refine hK _ ?_; clear hK K) | (refine soft_step (fun K hK => ?_); go_simp; refine ⟨_, _, ⟨rfl, rfl⟩, fun x => ?_, ?_⟩; ((with_reducible refine (Ratio_known 1 1048576 _ _ K2.out).mono ?_); rintro e w1 ⟨he, rfl⟩; exact ⟨_, he, .inr ⟨rfl, rfl⟩, Below.refl _ _⟩); rintro v hv; obtain rfl := srat2 hv; refine hK _ ?_; clear hK K))
          refine soft_nil ?_
          rintro w5 hw5
          have HB5 := Lib.hid (below_next HB.out hw5.below)
          clear hw5
          go_wp2_with fail
          go_ret
          exact ⟨ret_bool HW2.out.symm, HB5.out⟩
end Go.Proofs.Ytonmdkhfongmhaa
