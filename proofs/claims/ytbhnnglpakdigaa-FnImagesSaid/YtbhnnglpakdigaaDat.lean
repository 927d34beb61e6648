/- The drawdown at a place and a time that are right. -/
import Derived.Test.YtbhnnglpakdigaaWrec
namespace Go.Proofs.Ytbhnnglpakdigaa
open Go.RowKit

set_option maxRecDepth 100000 in
set_option maxHeartbeats 1600000 in
theorem DrawdownAt_ok (T S R : Nat) (X Y x y time : Int) (w : World) (hX : -128 ≤ X ∧ X ≤ 127) (hY : -128 ≤ Y ∧ Y ≤ 127) (hask : askW (okA (fb T) (fb S)) [⟨X, Y, R⟩] x y [time] = 0) :
    Calls Try.prog 37 #[.agg #[.float .f32 T, .float .f32 S], .agg #[.int .i8 X, .int .i8 Y, .float .f32 R], .int .i64 x, .int .i64 y, .int .i64 time] w (RetRec (downF (fb T) (fb S) (fb R) (x - X) (y - Y) time, 0) w) := by
  have HC := Lib.hid hask
  clear hask
  go_enter Try.func37, Try.ntmps37
  go_wp2_with (with_reducible refine wpList_box rfl ?_)
  intro bA wA hA1 hA2 hA3 hA4
  go_wp2_with (with_reducible refine wpList_box rfl ?_)
  intro bW wW hB1 hB2 hB3 hB4
  have HG1 := Lib.hid (hA3.later hB4)
  have HG2 := Lib.hid hB3
  have HB := Lib.hid (below_next hA4 hB4)
  clear hA3 hA4 hB3 hB4
  go_wp2_with (first | ((with_reducible refine wpList_get HG1.out Try.underlying30 rfl (by kernel_rfl) ?_ ?_); rfl) | ((with_reducible refine wpList_get HG2.out Try.underlying32 rfl (by kernel_rfl) ?_ ?_); rfl))
  refine (momentsFault_any T S _ _ [⟨X, Y, R⟩] x y [time] _ (by simp) (wat_one hX hY ((Blk.new' wW _ _ rfl).alloc _)) (by simp) (tat_list (ts := [time]) (Blk.new' _ _ _ (by simp)))).mono ?_
  rw [HC.out]
  rintro e w2 ⟨rfl, hb2⟩
  have HG3 := Lib.hid (((HG1.out.alloc _).alloc _).later hb2)
  have HG4 := Lib.hid (((HG2.out.alloc _).alloc _).later hb2)
  have HB2 := Lib.hid (below_next ((HB.out.alloc HB.out.size _).alloc (Nat.le_trans HB.out.size (by simp)) _) hb2)
  clear hb2
  have HM1 : Hid (1 ≤ time ∧ time ≤ 100000) := by obtain ⟨_, _, _, _, _, h⟩ := ask_down HC.out; exact mom_of (h time (by simp))
  have HD : Hid (DownOk T S X Y x y time) := down_of (e := ⟨X, Y, R⟩) HC.out (by simp) HM1.out
  go_wp2_with (first | ((with_reducible refine wpList_get HG3.out Try.underlying30 rfl (by kernel_rfl) ?_ ?_); rfl) | ((with_reducible refine wpList_get HG4.out Try.underlying32 rfl (by kernel_rfl) ?_ ?_); rfl))
  refine (drawdown_any T S R X Y x y time w2 HD.out).mono ?_
  rintro e w5 ⟨q, rfl, hq, hb5⟩
  have HQ := Lib.hid hq
  have HB5 := Lib.hid (below_next HB2.out hb5)
  clear hb5 hq
  go_wp2_with fail
  go_ret2
  exact ⟨q, rfl, HQ.out, HB5.out⟩
end Go.Proofs.Ytbhnnglpakdigaa
