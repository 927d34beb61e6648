/- The image of a well: both sides; a copy of a list of one well; a list with images. -/
import Derived.Test.YtbhnnglpakdigaaP6Ws
namespace Go.Proofs.Ytbhnnglpakdigaa
open Go.RowKit

/-- A well's image. -/
def imgW (e : We) (t : Int) (river : Bool) : We := ⟨t - e.x, e.y, if river then Op.negFloat .f32 e.r else e.r⟩
theorem place_in {n : Int} (h : placeB n = true) : -100 ≤ n ∧ n ≤ 100 := by
  unfold placeB at h
  rw [Bool.and_eq_true] at h
  exact ⟨of_decide_eq_true h.1, of_decide_eq_true h.2⟩
theorem newWr (w : World) : (Instr.alloc 32 true (.tuple #[])).run Try.prog w = .ok (.pointer (some ⟨w.heap.size, 0, none⟩)) (w.alloc (.cells #[.int .i8 0, .int .i8 0, .float .f32 0] 32)) := by kernel_rfl

set_option maxRecDepth 100000 in
set_option maxHeartbeats 3200000 in
theorem ImageOf_ok (X Y : Int) (R : Nat) (t : Int) (river : Bool) (w : World) (hX : -128 ≤ X ∧ X ≤ 127) (hY : -128 ≤ Y ∧ Y ≤ 127) (hok : wellB X Y (fb R) = true) (ht : -400 ≤ t ∧ t ≤ 400) (hp : placeB (t - X) = true) :
    Calls Try.prog 25 #[.agg #[.int .i8 X, .int .i8 Y, .float .f32 R], .int .i64 t, .bool river] w fun e w' => e = .returned (.tuple #[.agg (imgW ⟨X, Y, R⟩ t river).cells.toArray, .int .i64 0]) ∧ Below w.heap.size w w' := by
  obtain ⟨x0, x1⟩ := hX
  obtain ⟨t0, t1⟩ := ht
  have hpl := place_in hp
  obtain ⟨p0, p1⟩ := hpl
  have HP := Lib.hid hp
  have HOK := Lib.hid hok
  clear hp hok
  have hneg : ∀ w' : World, (Op.unary .neg (.float .f32 R)).run Try.prog w' = .ok (.float .f32 (Op.negFloat .f32 R)) w' := fun _ => rfl
  go_enter Try.func25, Try.ntmps25
  go_wp2_with (with_reducible refine wpList_box rfl ?_)
  intro A w1 hA1 hA2 hA3 hA4
  go_wp2_with (with_reducible refine wpList_new newWr ?_)
  intro B w2 hB1 hB2 hB3 hB4
  have HA := Lib.hid (hA3.later hB4)
  have HBk := Lib.hid hB3
  have HB2 := Lib.hid (below_next hA4 hB4)
  clear hA3 hA4 hB3 hB4
  go_wp2_with ((with_reducible refine wpList_get HA.out Try.underlying32 rfl (by kernel_rfl) ?_ ?_); rfl)
  refine (ValidWell_any X Y R w2 ⟨x0, x1⟩ hY).mono ?_
  rw [HOK.out]
  rintro e w3 ⟨rfl, hb3⟩
  have HA3 := Lib.hid (HA.out.later hb3)
  have HBk3 := Lib.hid (HBk.out.later hb3)
  have HB3 := Lib.hid (below_next HB2.out hb3)
  have c0 : w3.cell? ⟨A, 0, none⟩ = some (.int .i8 X) := HA3.out.at rfl
  clear hb3
  go_wp2_with (first | (go_at_call 60; refine (in_yes _ _ _ _ (by omega) (by omega)).mono ?_; rintro e w' ⟨rfl, rfl⟩) | (go_at_call 61; refine (isPlace_any (t - X) _).mono ?_; rw [HP.out]; rintro e w' ⟨rfl, rfl⟩) | ((with_reducible refine wpList_gateS ?_); refine wpList_put1 (i := 0) (v := .int .i8 (t - X)) size8 HA3.out (by simp) rfl rfl rfl rfl ?_))
  intro w4 s4 b4 k4
  have HA4 : Hid (Blk w4 A #[.int .i8 (t - X), .int .i8 Y, .float .f32 R] 32) := b4
  have HBk4 := Lib.hid (HBk3.out.grown k4 (by omega))
  have HB4 := Lib.hid (below_grown HB3.out k4 HB3.out.size (by omega))
  clear s4 b4 k4 c0
  cases river
  · go_wp2_with (first | ((with_reducible refine wpList_get HA4.out Try.underlying32 rfl (by kernel_rfl) ?_ ?_); rfl) | ((with_reducible refine wpList_gateS ?_); refine wpList_put (cells := #[.int .i8 (t - X), .int .i8 Y, .float .f32 R]) HBk4.out sizeWell rfl (by simp [Value.oneCell']) rfl rfl ?_))
    intro w5 s5 b5 k5
    go_wp2_with fail
    refine ret_cell2 rfl rfl (run_loadVar_row w5 B _ _ _ _ _ b5 Try.underlying32 rfl (by kernel_rfl)) rfl ⟨rfl, below_grown HB4.out k5 HB4.out.size (by omega)⟩
  · have c2 : w4.cell? ⟨A, 2, none⟩ = some (.float .f32 R) := HA4.out.at rfl
    go_wp2_with ((with_reducible refine wpList_gateS ?_); refine wpList_put1 (i := 2) (v := .float .f32 (Op.negFloat .f32 R)) size4 HA4.out (by simp) rfl rfl rfl rfl ?_)
    intro w6 s6 b6 k6
    have HA6 : Hid (Blk w6 A #[.int .i8 (t - X), .int .i8 Y, .float .f32 (Op.negFloat .f32 R)] 32) := b6
    have HBk6 := Lib.hid (HBk4.out.grown k6 (by omega))
    have HB6 := Lib.hid (below_grown HB4.out k6 HB4.out.size (by omega))
    clear s6 b6 k6 c2
    go_wp2_with (first | ((with_reducible refine wpList_get HA6.out Try.underlying32 rfl (by kernel_rfl) ?_ ?_); rfl) | ((with_reducible refine wpList_gateS ?_); refine wpList_put (cells := #[.int .i8 (t - X), .int .i8 Y, .float .f32 (Op.negFloat .f32 R)]) HBk6.out sizeWell rfl (by simp [Value.oneCell']) rfl rfl ?_))
    intro w5 s5 b5 k5
    go_wp2_with fail
    refine ret_cell2 rfl rfl (run_loadVar_row w5 B _ _ _ _ _ b5 Try.underlying32 rfl (by kernel_rfl)) rfl ⟨rfl, below_grown HB6.out k5 HB6.out.size (by omega)⟩

set_option maxRecDepth 100000 in
set_option maxHeartbeats 3200000 in
theorem l03Image_ok (X Y : Int) (R : Nat) (t : Int) (river : Bool) (w : World) (hX : -128 ≤ X ∧ X ≤ 127) (ht : -400 ≤ t ∧ t ≤ 400) (hp : placeB (t - X) = true) :
    Calls Try.prog 64 #[.agg #[.int .i8 X, .int .i8 Y, .float .f32 R], .int .i64 t, .bool river] w fun e w' => e = .returned (.tuple #[.agg (imgW ⟨X, Y, R⟩ t river).cells.toArray, .int .i64 0]) ∧ Below w.heap.size w w' := by
  obtain ⟨x0, x1⟩ := hX
  obtain ⟨t0, t1⟩ := ht
  have hpl := place_in hp
  obtain ⟨p0, p1⟩ := hpl
  have HP := Lib.hid hp
  clear hp
  have hneg : ∀ w' : World, (Op.unary .neg (.float .f32 R)).run Try.prog w' = .ok (.float .f32 (Op.negFloat .f32 R)) w' := fun _ => rfl
  go_enter Try.func64, Try.ntmps64
  go_wp2_with (with_reducible refine wpList_box rfl ?_)
  intro A w1 hA1 hA2 hA3 hA4
  go_wp2_with (with_reducible refine wpList_new newWr ?_)
  intro B w2 hB1 hB2 hB3 hB4
  have HA := Lib.hid (hA3.later hB4)
  have HBk := Lib.hid hB3
  have HB2 := Lib.hid (below_next hA4 hB4)
  have c0 : w2.cell? ⟨A, 0, none⟩ = some (.int .i8 X) := HA.out.at rfl
  have c1 : w2.cell? ⟨A, 1, none⟩ = some (.int .i8 Y) := HA.out.at rfl
  have c2 : w2.cell? ⟨A, 2, none⟩ = some (.float .f32 R) := HA.out.at rfl
  clear hA3 hA4 hB3 hB4
  go_wp2_with (first | (go_at_call 63; refine (l00In_yes _ _ _ _ (by omega) (by omega)).mono ?_; rintro e w' ⟨rfl, rfl⟩) | (go_at_call 77; refine (l03Place_any (t - X) _).mono ?_; rw [HP.out]; rintro e w' ⟨rfl, rfl⟩) | (with_reducible refine wpList_new newWr ?_))
  intro C w4 hC1 hC2 hC3 hC4
  have HA4 := Lib.hid (HA.out.later hC4)
  have HBk4 := Lib.hid (HBk.out.later hC4)
  have HB4 := Lib.hid (below_next HB2.out hC4)
  clear hC4 c0 c1 c2
  go_wp2_with ((with_reducible refine wpList_gateS ?_); refine wpList_put (cells := #[.int .i8 (t - X), .int .i8 Y, .float .f32 R]) hC3 sizeWell rfl (by simp [Value.oneCell']) rfl rfl ?_)
  intro w5 s5 b5 k5
  have HC5 := Lib.hid b5
  have HA5 := Lib.hid (HA4.out.grown k5 (by omega))
  have HBk5 := Lib.hid (HBk4.out.grown k5 (by omega))
  have HB5 := Lib.hid (below_grown HB4.out k5 HB4.out.size (by omega))
  clear hC3 s5 b5 k5
  cases river
  · go_wp2_with (first | ((with_reducible refine wpList_get HC5.out Try.underlying32 rfl (by kernel_rfl) ?_ ?_); rfl) | ((with_reducible refine wpList_gateS ?_); refine wpList_put (cells := #[.int .i8 (t - X), .int .i8 Y, .float .f32 R]) HBk5.out sizeWell rfl (by simp [Value.oneCell']) rfl rfl ?_))
    intro w6 s6 b6 k6
    go_wp2_with fail
    refine ret_cell2 rfl rfl (run_loadVar_row w6 B _ _ _ _ _ b6 Try.underlying32 rfl (by kernel_rfl)) rfl ⟨rfl, below_grown HB5.out k6 HB5.out.size (by omega)⟩
  · have c2 : w5.cell? ⟨A, 2, none⟩ = some (.float .f32 R) := HA5.out.at rfl
    go_wp2_with ((with_reducible refine wpList_gateS ?_); refine wpList_put1 (i := 2) (v := .float .f32 (Op.negFloat .f32 R)) size4 HC5.out (by simp) rfl rfl rfl rfl ?_)
    intro w6 s6 b6 k6
    have HC6 : Hid (Blk w6 C #[.int .i8 (t - X), .int .i8 Y, .float .f32 (Op.negFloat .f32 R)] 32) := b6
    have HBk6 := Lib.hid (HBk5.out.grown k6 (by omega))
    have HB6 := Lib.hid (below_grown HB5.out k6 HB5.out.size (by omega))
    clear s6 b6 k6 c2
    go_wp2_with (first | ((with_reducible refine wpList_get HC6.out Try.underlying32 rfl (by kernel_rfl) ?_ ?_); rfl) | ((with_reducible refine wpList_gateS ?_); refine wpList_put (cells := #[.int .i8 (t - X), .int .i8 Y, .float .f32 (Op.negFloat .f32 R)]) HBk6.out sizeWell rfl (by simp [Value.oneCell']) rfl rfl ?_))
    intro w7 s7 b7 k7
    go_wp2_with fail
    refine ret_cell2 rfl rfl (run_loadVar_row w7 B _ _ _ _ _ b7 Try.underlying32 rfl (by kernel_rfl)) rfl ⟨rfl, below_grown HB6.out k7 HB6.out.size (by omega)⟩

set_option maxRecDepth 100000 in
set_option maxHeartbeats 3200000 in
theorem specImageOf_ok (X Y : Int) (R : Nat) (t : Int) (river : Bool) (w : World) (hX : -128 ≤ X ∧ X ≤ 127) (hY : -128 ≤ Y ∧ Y ≤ 127) (hok : wellB X Y (fb R) = true) (ht : -400 ≤ t ∧ t ≤ 400) (hp : placeB (t - X) = true) :
    Calls Try.prog 26 #[.agg #[.int .i8 X, .int .i8 Y, .float .f32 R], .int .i64 t, .bool river] w fun e w' => e = .returned (.tuple #[.agg (imgW ⟨X, Y, R⟩ t river).cells.toArray, .int .i64 0]) ∧ Below w.heap.size w w' := by
  have HP := Lib.hid hp
  have HOK := Lib.hid hok
  have HX := Lib.hid hX
  have HT := Lib.hid ht
  obtain ⟨t0, t1⟩ := ht
  clear hp hok
  go_enter Try.func26, Try.ntmps26
  go_wp2_with (with_reducible refine wpList_box rfl ?_)
  intro A w1 hA1 hA2 hA3 hA4
  go_wp2_with (with_reducible refine wpList_new newWr ?_)
  intro B w2 hB1 hB2 hB3 hB4
  have HA := Lib.hid (hA3.later hB4)
  have HBk := Lib.hid hB3
  have HB2 := Lib.hid (below_next hA4 hB4)
  clear hA3 hA4 hB3 hB4
  go_wp2_with ((with_reducible refine wpList_get HA.out Try.underlying32 rfl (by kernel_rfl) ?_ ?_); rfl)
  refine (l03Ok_any X Y R w2 hX hY).mono ?_
  rw [HOK.out]
  rintro e w3 ⟨rfl, hb3⟩
  have HA3 := Lib.hid (HA.out.later hb3)
  have HBk3 := Lib.hid (HBk.out.later hb3)
  have HB3 := Lib.hid (below_next HB2.out hb3)
  clear hb3
  go_wp2_with (first | (go_at_call 63; refine (l00In_yes _ _ _ _ (by omega) (by omega)).mono ?_; rintro e w' ⟨rfl, rfl⟩) | ((with_reducible refine wpList_get HA3.out Try.underlying32 rfl (by kernel_rfl) ?_ ?_); rfl))
  refine (l03Image_ok X Y R t river w3 hX HT.out HP.out).mono ?_
  rintro e w4 ⟨rfl, hb4⟩
  have HBk4 := Lib.hid (HBk3.out.later hb4)
  have HB4 := Lib.hid (below_next HB3.out hb4)
  clear hb4
  go_wp2_with ((with_reducible refine wpList_gateS ?_); refine wpList_put (cells := (imgW ⟨X, Y, R⟩ t river).cells.toArray) HBk4.out sizeWell rfl (by simp [We.cells, Value.oneCell']) rfl rfl ?_)
  intro w5 s5 b5 k5
  go_wp2_with fail
  refine ret_cell2 rfl rfl (run_loadVar_row w5 B _ _ _ _ _ b5 Try.underlying32 rfl (by kernel_rfl)) rfl ⟨rfl, below_grown HB4.out k5 HB4.out.size (by omega)⟩
end Go.Proofs.Ytbhnnglpakdigaa
