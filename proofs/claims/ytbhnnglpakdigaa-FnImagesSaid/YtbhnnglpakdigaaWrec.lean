/- A recovery: both sides. -/
import Derived.Test.YtbhnnglpakdigaaWtime
namespace Go.Proofs.Ytbhnnglpakdigaa
open Go.RowKit

/-- A float and a whole number are handed back. -/
def RetRec (t : F × Int) (w : World) (e : Ending) (w' : World) : Prop := ∃ r, e = .returned (.tuple #[.float .f32 r, .int .i64 t.2]) ∧ Is r t.1 ∧ Below w.heap.size w w'
def recR (T S R : Nat) (X Y x y stop time : Int) : F × Int :=
  if askW (okA (fb T) (fb S)) [⟨X, Y, R⟩] x y [stop, time] = 0 then
    (if stop < time then fsub (downF (fb T) (fb S) (fb R) (x - X) (y - Y) time) (downF (fb T) (fb S) (fb R) (x - X) (y - Y) (time - stop)) else downF (fb T) (fb S) (fb R) (x - X) (y - Y) time, 0)
  else (some 0, askW (okA (fb T) (fb S)) [⟨X, Y, R⟩] x y [stop, time])
theorem ask_two (A : Bool) (l : List We) (x y stop time : Int) : askW A l x y [stop, time] = if askW A l x y [time] = 0 then (if momB stop then 0 else 2) else askW A l x y [time] := by
  unfold askW
  cases h1 : (A && l.all We.ok)
  · simp
  · by_cases h2 : 12 < l.length
    · simp [h2]
    · simp [h2]
      cases placeB x <;> cases placeB y <;> cases momB stop <;> cases momB time <;> simp

set_option maxRecDepth 100000 in
set_option maxHeartbeats 3200000 in
theorem RecoveryAt_any (T S R : Nat) (X Y x y stop time : Int) (w : World) (hX : -128 ≤ X ∧ X ≤ 127) (hY : -128 ≤ Y ∧ Y ≤ 127) :
    Calls Try.prog 19 #[.agg #[.float .f32 T, .float .f32 S], .agg #[.int .i8 X, .int .i8 Y, .float .f32 R], .int .i64 x, .int .i64 y, .int .i64 stop, .int .i64 time] w (RetRec (recR T S R X Y x y stop time) w) := by
  go_enter Try.func19, Try.ntmps19
  go_wp2_with (with_reducible refine wpList_box rfl ?_)
  intro bA wA hA1 hA2 hA3 hA4
  go_wp2_with (with_reducible refine wpList_box rfl ?_)
  intro bW wW hB1 hB2 hB3 hB4
  have HG1 := Lib.hid (hA3.later hB4)
  have HG2 := Lib.hid hB3
  have HB := Lib.hid (below_next hA4 hB4)
  clear hA3 hA4 hB3 hB4
  go_wp2_with (first | ((with_reducible refine wpList_get HG1.out Try.underlying30 rfl (by kernel_rfl) ?_ ?_); rfl) | ((with_reducible refine wpList_get HG2.out Try.underlying32 rfl (by kernel_rfl) ?_ ?_); rfl))
  obtain ⟨c, hc⟩ : ∃ c, askW (okA (fb T) (fb S)) [⟨X, Y, R⟩] x y [stop, time] = c := ⟨_, rfl⟩
  have HC := Lib.hid hc
  clear hc
  refine (momentsFault_any T S _ _ [⟨X, Y, R⟩] x y [stop, time] _ (by simp) (wat_one hX hY ((Blk.new' wW _ _ rfl).alloc _)) (by simp) (tat_list (ts := [stop, time]) (Blk.new' _ _ _ (by simp)))).mono ?_
  rw [HC.out]
  rintro e w2 ⟨rfl, hb2⟩
  have HG3 := Lib.hid (((HG1.out.alloc _).alloc _).later hb2)
  have HG4 := Lib.hid (((HG2.out.alloc _).alloc _).later hb2)
  have HB2 := Lib.hid (below_next ((HB.out.alloc HB.out.size _).alloc (Nat.le_trans HB.out.size (by simp)) _) hb2)
  clear hb2
  by_cases h0 : c = 0
  · subst h0
    have HM1 : Hid (1 ≤ time ∧ time ≤ 100000) := by obtain ⟨_, _, _, _, _, h⟩ := ask_down HC.out; exact mom_of (h time (by simp))
    have HM2 : Hid (1 ≤ stop ∧ stop ≤ 100000) := by obtain ⟨_, _, _, _, _, h⟩ := ask_down HC.out; exact mom_of (h stop (by simp))
    have HD : Hid (∀ t : Int, 1 ≤ t ∧ t ≤ 100000 → DownOk T S X Y x y t) := fun t ht => down_of (e := ⟨X, Y, R⟩) HC.out (by simp) ht
    obtain ⟨m0, m1⟩ := HM1.out
    obtain ⟨s0, s1⟩ := HM2.out
    go_wp2_with (first | ((with_reducible refine wpList_get HG3.out Try.underlying30 rfl (by kernel_rfl) ?_ ?_); rfl) | ((with_reducible refine wpList_get HG4.out Try.underlying32 rfl (by kernel_rfl) ?_ ?_); rfl))
    refine (drawdown_any T S R X Y x y time w2 (HD.out time ⟨m0, m1⟩)).mono ?_
    rintro e w5 ⟨q, rfl, hq, hb5⟩
    have HQ := Lib.hid hq
    have K3 := Lib.hid (HG3.out.later hb5)
    have K4 := Lib.hid (HG4.out.later hb5)
    have HB5 := Lib.hid (below_next HB2.out hb5)
    clear hb5 hq
    by_cases hlt : stop < time
    · have HR : Hid (recR T S R X Y x y stop time = (fsub (downF (fb T) (fb S) (fb R) (x - X) (y - Y) time) (downF (fb T) (fb S) (fb R) (x - X) (y - Y) (time - stop)), 0)) := by show (if _ then _ else _) = _; rw [if_pos HC.out, if_pos hlt]
      go_wp2_with (first | ((with_reducible refine wpList_get K3.out Try.underlying30 rfl (by kernel_rfl) ?_ ?_); rfl) | ((with_reducible refine wpList_get K4.out Try.underlying32 rfl (by kernel_rfl) ?_ ?_); rfl) | ((with_reducible refine wpList_gate ?_); refine wpList_arith _ _ rfl rfl rfl ?_; intro r n hr) | (go_at_call 54; refine (drawdown_any T S R X Y x y (time - stop) _ (HD.out (time - stop) ⟨by omega, by omega⟩)).mono ?_; rintro e w6 ⟨q6, rfl, hq6, hb6⟩))
      go_ret2
      exact ⟨_, by rw [HR.out]; rfl, by rw [HR.out]; exact hr.op HQ.out hq6, below_drawn (below_next HB5.out hb6) _⟩
    · have HR : Hid (recR T S R X Y x y stop time = (downF (fb T) (fb S) (fb R) (x - X) (y - Y) time, 0)) := by show (if _ then _ else _) = _; rw [if_pos HC.out, if_neg hlt]
      go_wp2_with fail
      go_ret2
      exact ⟨q, by rw [HR.out]; rfl, by rw [HR.out]; exact HQ.out, HB5.out⟩
  · have HR : Hid (recR T S R X Y x y stop time = (some 0, c)) := by show (if _ then _ else _) = _; rw [HC.out, if_neg h0]
    go_wp2_with fail
    go_ret2
    exact ⟨0, by rw [HR.out]; rfl, by rw [HR.out]; exact fb0, HB2.out⟩

set_option maxRecDepth 100000 in
set_option maxHeartbeats 3200000 in
theorem specRecoveryAt_any (T S R : Nat) (X Y x y stop time : Int) (w : World) (hX : -128 ≤ X ∧ X ≤ 127) (hY : -128 ≤ Y ∧ Y ≤ 127) :
    Calls Try.prog 18 #[.agg #[.float .f32 T, .float .f32 S], .agg #[.int .i8 X, .int .i8 Y, .float .f32 R], .int .i64 x, .int .i64 y, .int .i64 stop, .int .i64 time] w (RetRec (recR T S R X Y x y stop time) w) := by
  go_enter Try.func18, Try.ntmps18
  go_wp2_with (with_reducible refine wpList_box rfl ?_)
  intro bA wA hA1 hA2 hA3 hA4
  go_wp2_with (with_reducible refine wpList_box rfl ?_)
  intro bW wW hB1 hB2 hB3 hB4
  have HG1 := Lib.hid (hA3.later hB4)
  have HG2 := Lib.hid hB3
  have HB := Lib.hid (below_next hA4 hB4)
  clear hA3 hA4 hB3 hB4
  go_wp2_with (first | ((with_reducible refine wpList_get HG1.out Try.underlying30 rfl (by kernel_rfl) ?_ ?_); rfl) | ((with_reducible refine wpList_get HG2.out Try.underlying32 rfl (by kernel_rfl) ?_ ?_); rfl))
  obtain ⟨c, hc⟩ : ∃ c, askW (okA (fb T) (fb S)) [⟨X, Y, R⟩] x y [time] = c := ⟨_, rfl⟩
  have HC := Lib.hid hc
  clear hc
  refine (l03Asked_any T S _ [⟨X, Y, R⟩] x y time _ (by simp) (wat_one hX hY (Blk.new' wW _ _ rfl))).mono ?_
  rw [HC.out]
  rintro e w2 ⟨rfl, hb2⟩
  have HG3 := Lib.hid ((HG1.out.alloc _).later hb2)
  have HG4 := Lib.hid ((HG2.out.alloc _).later hb2)
  have HB2 := Lib.hid (below_next (HB.out.alloc HB.out.size _) hb2)
  clear hb2
  by_cases h0 : c = 0
  · subst h0
    cases hms : momB stop
    · have HMS := Lib.hid hms
      have HR : Hid (recR T S R X Y x y stop time = (some 0, 2)) := by show (if _ then _ else _) = _; rw [ask_two, if_pos HC.out, hms]; rfl
      clear hms
      go_wp2_with (go_at_call 55; refine (l03Moment_any stop _).mono ?_; rw [HMS.out]; rintro e w' ⟨rfl, rfl⟩)
      go_ret2
      exact ⟨0, by rw [HR.out]; rfl, by rw [HR.out]; exact fb0, HB2.out⟩
    · have HMS := Lib.hid hms
      have HC2 : Hid (askW (okA (fb T) (fb S)) [⟨X, Y, R⟩] x y [stop, time] = 0) := by show _ = _; rw [ask_two, if_pos HC.out, hms]; rfl
      clear hms
      have HM1 : Hid (1 ≤ time ∧ time ≤ 100000) := by obtain ⟨_, _, _, _, _, h⟩ := ask_down HC2.out; exact mom_of (h time (by simp))
      have HM2 : Hid (1 ≤ stop ∧ stop ≤ 100000) := by obtain ⟨_, _, _, _, _, h⟩ := ask_down HC2.out; exact mom_of (h stop (by simp))
      have HD : Hid (∀ t : Int, 1 ≤ t ∧ t ≤ 100000 → DownOk T S X Y x y t) := fun t ht => down_of (e := ⟨X, Y, R⟩) HC2.out (by simp) ht
      obtain ⟨m0, m1⟩ := HM1.out
      obtain ⟨s0, s1⟩ := HM2.out
      go_wp2_with (first | ((with_reducible refine wpList_get HG3.out Try.underlying30 rfl (by kernel_rfl) ?_ ?_); rfl) | ((with_reducible refine wpList_get HG4.out Try.underlying32 rfl (by kernel_rfl) ?_ ?_); rfl) | (go_at_call 55; refine (l03Moment_any stop _).mono ?_; rw [HMS.out]; rintro e w' ⟨rfl, rfl⟩))
      refine (l03Drawdown_any T S R X Y x y time w2 (HD.out time ⟨m0, m1⟩)).mono ?_
      rintro e w5 ⟨q, rfl, hq, hb5⟩
      have HQ := Lib.hid hq
      have K3 := Lib.hid (HG3.out.later hb5)
      have K4 := Lib.hid (HG4.out.later hb5)
      have HB5 := Lib.hid (below_next HB2.out hb5)
      clear hb5 hq
      by_cases hlt : stop < time
      · have HR : Hid (recR T S R X Y x y stop time = (fsub (downF (fb T) (fb S) (fb R) (x - X) (y - Y) time) (downF (fb T) (fb S) (fb R) (x - X) (y - Y) (time - stop)), 0)) := by show (if _ then _ else _) = _; rw [if_pos HC2.out, if_pos hlt]
        go_wp2_with (first | ((with_reducible refine wpList_get K3.out Try.underlying30 rfl (by kernel_rfl) ?_ ?_); rfl) | ((with_reducible refine wpList_get K4.out Try.underlying32 rfl (by kernel_rfl) ?_ ?_); rfl) | ((with_reducible refine wpList_gate ?_); refine wpList_arith _ _ rfl rfl rfl ?_; intro r n hr) | (go_at_call 51; refine (l03Drawdown_any T S R X Y x y (time - stop) _ (HD.out (time - stop) ⟨by omega, by omega⟩)).mono ?_; rintro e w6 ⟨q6, rfl, hq6, hb6⟩))
        go_ret2
        exact ⟨_, by rw [HR.out]; rfl, by rw [HR.out]; exact hr.op HQ.out hq6, below_drawn (below_next HB5.out hb6) _⟩
      · have HR : Hid (recR T S R X Y x y stop time = (downF (fb T) (fb S) (fb R) (x - X) (y - Y) time, 0)) := by show (if _ then _ else _) = _; rw [if_pos HC2.out, if_neg hlt]
        go_wp2_with fail
        go_ret2
        exact ⟨q, by rw [HR.out]; rfl, by rw [HR.out]; exact HQ.out, HB5.out⟩
  · have HR : Hid (recR T S R X Y x y stop time = (some 0, c)) := by
      have h2 : askW (okA (fb T) (fb S)) [⟨X, Y, R⟩] x y [stop, time] = c := by rw [ask_two, HC.out, if_neg h0]
      show (if _ then _ else _) = _; rw [h2, if_neg h0]
    go_wp2_with fail
    go_ret2
    exact ⟨0, by rw [HR.out]; rfl, by rw [HR.out]; exact fb0, HB2.out⟩

end Go.Proofs.Ytbhnnglpakdigaa
