/- The radius of a drawdown, and a recovery: both sides. -/
import Derived.Test.YtbhnnglpakdigaaWtime
namespace Go.Proofs.Ytbhnnglpakdigaa
open Go.RowKit

/-- How far east a drawdown reaches. -/
def farK (d : Int → F) (lev : F) : Nat → Int → Int
  | 0, x => x
  | n + 1, x => if x ≤ 100 then (if fge (d x) lev then farK d lev n (x + 1) else x) else x
theorem farK_out {d : Int → F} {lev : F} {n : Nat} {x : Int} (h : ¬ x ≤ 100) : farK d lev n x = x := by
  cases n with
  | zero => rfl
  | succ n => show (if _ then _ else _) = _; rw [if_neg h]
theorem farK_no {d : Int → F} {lev : F} {n : Nat} {x : Int} (h : fge (d x) lev = false) : farK d lev n x = x := by
  cases n with
  | zero => rfl
  | succ n =>
    show (if _ then _ else _) = _
    split
    · rw [h]; rfl
    · rfl
theorem farK_yes {d : Int → F} {lev : F} {n : Nat} {x : Int} (hx : x ≤ 100) (h : fge (d x) lev = true) : farK d lev (n + 1) x = farK d lev n (x + 1) := by
  show (if _ then _ else _) = _
  rw [if_pos hx, h]; rfl
/-- What is told of a reach. -/
def radV (n : Int) : Int × Int := if n = 0 then (0, 6) else (n - 1, 0)
theorem radV_zero {n : Int} (h : n = 0) : radV n = (0, 6) := if_pos h
theorem radV_some {n : Int} (h : ¬ n = 0) : radV n = (n - 1, 0) := if_neg h
/-- The place at which it ends. -/
def radN (T S R : Nat) (X Y time : Int) (lev : Nat) : Int := farK (fun x => downF (fb T) (fb S) (fb R) (x - X) (Y - Y) time) (fb lev) 201 X
def radR (T S R : Nat) (X Y time : Int) (lev : Nat) : Int × Int :=
  if plain (fb lev) then
    (if askW (okA (fb T) (fb S)) [⟨X, Y, R⟩] 0 0 [time] = 0 then
      radV (radN T S R X Y time lev - X)
     else (0, askW (okA (fb T) (fb S)) [⟨X, Y, R⟩] 0 0 [time]))
  else (0, 1)
def RadRel (d : Int → F) (lev : F) (X N : Int) (w : World) (v11 v12 : Value) (wr : World) : Prop :=
  ∃ x : Int, X ≤ x ∧ x ≤ 101 ∧ v12 = .int .i64 x ∧ v11 = .int .i64 (x - X) ∧ farK d lev (201 - (x - X)).toNat x = N ∧ Below w.heap.size w wr
def RadRelS (d : Int → F) (lev : F) (X N : Int) (w : World) (v11 : Value) (wr : World) : Prop :=
  ∃ x : Int, X ≤ x ∧ x ≤ 101 ∧ v11 = .int .i64 x ∧ farK d lev (201 - (x - X)).toNat x = N ∧ Below w.heap.size w wr

set_option maxRecDepth 100000 in
set_option maxHeartbeats 1600000 in
theorem RadiusOf_any (T S R : Nat) (X Y time : Int) (lev : Nat) (w : World) (hX : -128 ≤ X ∧ X ≤ 127) (hY : -128 ≤ Y ∧ Y ≤ 127) :
    Calls Try.prog 17 #[.agg #[.float .f32 T, .float .f32 S], .agg #[.int .i8 X, .int .i8 Y, .float .f32 R], .int .i64 time, .float .f32 lev] w (RetII (radR T S R X Y time lev) w) := by
  go_enter Try.func17, Try.ntmps17
  go_wp2_with (with_reducible refine wpList_box rfl ?_)
  intro bA wA hA1 hA2 hA3 hA4
  go_wp2_with (with_reducible refine wpList_box rfl ?_)
  intro bW wW hB1 hB2 hB3 hB4
  have HG1 := Lib.hid (hA3.later hB4)
  have HG2 := Lib.hid hB3
  have HB := Lib.hid (below_next hA4 hB4)
  clear hA3 hA4 hB3 hB4
  go_wp2_with fail
  refine (IsPlain_any lev wW).mono ?_
  rintro e w1 ⟨rfl, hb1⟩
  have G1 := Lib.hid (HG1.out.later hb1)
  have G2 := Lib.hid (HG2.out.later hb1)
  have HB1 := Lib.hid (below_next HB.out hb1)
  clear hb1
  cases hp : plain (fb lev)
  · have HR : Hid (radR T S R X Y time lev = (0, 1)) := by show (if _ then _ else _) = _; rw [hp]; rfl
    clear hp
    go_wp2_with fail
    go_ret2
    exact ⟨by rw [HR.out]; rfl, HB1.out⟩
  · have HP := Lib.hid hp
    clear hp
    go_wp2_with (first | ((with_reducible refine wpList_get G1.out Try.underlying30 rfl (by kernel_rfl) ?_ ?_); rfl) | ((with_reducible refine wpList_get G2.out Try.underlying32 rfl (by kernel_rfl) ?_ ?_); rfl))
    obtain ⟨c, hc⟩ : ∃ c, askW (okA (fb T) (fb S)) [⟨X, Y, R⟩] 0 0 [time] = c := ⟨_, rfl⟩
    have HC := Lib.hid hc
    clear hc
    refine (momentsFault_any T S _ _ [⟨X, Y, R⟩] 0 0 [time] _ (by simp) (wat_one hX hY ((Blk.new' w1 _ _ rfl).alloc _)) (by simp) (tat_list (ts := [time]) (Blk.new' _ _ _ (by simp)))).mono ?_
    rw [HC.out]
    rintro e w2 ⟨rfl, hb2⟩
    have HG3 := Lib.hid (((G1.out.alloc _).alloc _).later hb2)
    have HG4 := Lib.hid (((G2.out.alloc _).alloc _).later hb2)
    have HB2 := Lib.hid (below_next ((HB1.out.alloc HB1.out.size _).alloc (Nat.le_trans HB1.out.size (by simp)) _) hb2)
    clear hb2
    by_cases h0 : c = 0
    · subst h0
      have HM : Hid (1 ≤ time ∧ time ≤ 100000) := by obtain ⟨_, _, _, _, _, h⟩ := ask_down HC.out; exact mom_of (h time (by simp))
      have HWE := well_of ((ask_down HC.out).2.1 ⟨X, Y, R⟩ (by simp))
      have HAQ := (ask_down HC.out).1
      obtain ⟨⟨xx0, xx1⟩, yy0, yy1⟩ := HWE
      simp only at xx0 xx1 yy0 yy1
      have HD : Hid (∀ x : Int, X ≤ x ∧ x ≤ 100 → DownOk T S X Y x Y time) := fun x hx => ⟨HAQ, ⟨xx0, xx1⟩, ⟨yy0, yy1⟩, ⟨by omega, hx.2⟩, ⟨yy0, yy1⟩, HM.out⟩
      obtain ⟨N, hN⟩ : ∃ N, radN T S R X Y time lev = N := ⟨_, rfl⟩
      have HR : Hid (radR T S R X Y time lev = radV (N - X)) := by show (if _ then _ else _) = _; rw [HP.out, if_pos rfl, if_pos HC.out, hN]
      have HN : Hid (farK (fun x => downF (fb T) (fb S) (fb R) (x - X) (Y - Y) time) (fb lev) 201 X = N) := hN
      clear hN
      have hgt := order_gt
      have heq := order_eq
      have e0 : w2.cell? ⟨bW, 0, none⟩ = some (.int .i8 X) := HG4.out.at rfl
      clear HAQ
      go_wp2_with fail
      go_loopw [11, 12] (fun v11 v12 wr => RadRel (fun x => downF (fb T) (fb S) (fb R) (x - X) (Y - Y) time) (fb lev) X N w2 v11 v12 wr) (fun _ v12 _ => (101 - intOf v12).toNat)
      case atStart => exact ⟨X, by omega, by omega, rfl, by simp, by rw [show (201 - (X - X)).toNat = 201 by omega]; exact HN.out, Below.refl _ _⟩
      case round =>
        obtain ⟨x, x0, x1, rfl, rfl, hun, hBr⟩ := hrel
        have HU := Lib.hid hun
        have HBR := Lib.hid hBr
        have K3 := Lib.hid (HG3.out.later hBr)
        have K4 := Lib.hid (HG4.out.later hBr)
        have f0 : wr.cell? ⟨bW, 0, none⟩ = some (.int .i8 X) := K4.out.at rfl
        have f1 : wr.cell? ⟨bW, 1, none⟩ = some (.int .i8 Y) := K4.out.at rfl
        clear hun hBr e0
        by_cases hle : x ≤ 100
        · have a0 : wr.cell? ⟨bA, 0, none⟩ = some (.float .f32 T) := K3.out.at rfl
          have a1 : wr.cell? ⟨bA, 1, none⟩ = some (.float .f32 S) := K3.out.at rfl
          have f2 : wr.cell? ⟨bW, 2, none⟩ = some (.float .f32 R) := K4.out.at rfl
          cases hcmp : fge (downF (fb T) (fb S) (fb R) (x - X) (Y - Y) time) (fb lev)
          · have HCMP := Lib.hid hcmp
            clear hcmp
            have HU2 : Hid (N = x) := by
              show _ = _
              rw [← HU.out]
              exact farK_no HCMP.out
            by_cases hz : x = X
            · have HZ : Hid (radR T S R X Y time lev = (0, 6)) := by show _ = _; rw [HR.out, HU2.out]; exact radV_zero (by omega)
              subst hz
              go_wp2_with (go_at_call 54; refine (drawdown_any T S R x Y x Y time _ (HD.out x ⟨x0, hle⟩)).mono ?_; rintro e w5 ⟨q, rfl, hq, hb5⟩; have f9 := cell_below hb5 f0; have hg : (fgt (fb q) (fb lev) || feq (fb q) (fb lev)) = false := by rw [hq.out]; exact HCMP.out)
              go_ret2
              exact ⟨by rw [HZ.out]; rfl, HB2.out.trans ((below_next HBR.out hb5).mono HB2.out.size)⟩
            · have HZ : Hid (radR T S R X Y time lev = (x - X - 1, 0)) := by show _ = _; rw [HR.out, HU2.out]; exact radV_some (by omega)
              have hz2 : ¬ x - X = 0 := by omega
              go_wp2_with (go_at_call 54; refine (drawdown_any T S R X Y x Y time _ (HD.out x ⟨x0, hle⟩)).mono ?_; rintro e w5 ⟨q, rfl, hq, hb5⟩; have f9 := cell_below hb5 f0; have hg : (fgt (fb q) (fb lev) || feq (fb q) (fb lev)) = false := by rw [hq.out]; exact HCMP.out)
              go_ret2
              refine ⟨?_, HB2.out.trans ((below_next HBR.out hb5).mono HB2.out.size)⟩
              first | (rw [HZ.out]; done) | (rw [HZ.out]; rfl) | (rw [HZ.out]; show Ending.returned (.tuple #[.int .i64 (x - 1 - X), .int .i64 0]) = _; rw [show x - 1 - X = x - X - 1 by omega])
          · have HCMP := Lib.hid hcmp
            clear hcmp
            go_wp2_with (go_at_call 54; refine (drawdown_any T S R X Y x Y time _ (HD.out x ⟨x0, hle⟩)).mono ?_; rintro e w5 ⟨q, rfl, hq, hb5⟩; have f9 := cell_below hb5 f0; have hg : (fgt (fb q) (fb lev) || feq (fb q) (fb lev)) = true := by rw [hq.out]; exact HCMP.out)
            have HB5 := Lib.hid (below_next HBR.out hb5)
            have HU2 : Hid (farK (fun x => downF (fb T) (fb S) (fb R) (x - X) (Y - Y) time) (fb lev) (201 - (x + 1 - X)).toNat (x + 1) = N) := by
              show _ = _
              rw [← HU.out, show (201 - (x - X)).toNat = (201 - (x + 1 - X)).toNat + 1 by omega]
              exact (farK_yes hle HCMP.out).symm
            go_roundw
            case rel => exact ⟨x + 1, by omega, by omega, rfl, by go_num, HU2.out, HB5.out⟩
            case measure => first | (simp [intOf]; done) | (simp [intOf]; omega)
        · have HU2 : Hid (N = x) := by
            show _ = _
            rw [← HU.out]
            exact farK_out hle
          by_cases hz : x = X
          · exact absurd hz (by omega)
          · have HZ : Hid (radR T S R X Y time lev = (x - X - 1, 0)) := by show _ = _; rw [HR.out, HU2.out]; exact radV_some (by omega)
            have hz2 : ¬ x - X = 0 := by omega
            go_wp2_with fail
            go_ret2
            refine ⟨?_, HB2.out.trans (HBR.out.mono HB2.out.size)⟩
            first | (rw [HZ.out]; done) | (rw [HZ.out]; rfl) | (rw [HZ.out]; show Ending.returned (.tuple #[.int .i64 (x - 1 - X), .int .i64 0]) = _; rw [show x - 1 - X = x - X - 1 by omega])
    · have HR : Hid (radR T S R X Y time lev = (0, c)) := by show (if _ then _ else _) = _; rw [HP.out, if_pos rfl, HC.out, if_neg h0]
      go_wp2_with fail
      go_ret2
      exact ⟨by rw [HR.out]; rfl, HB2.out⟩

set_option maxRecDepth 100000 in
set_option maxHeartbeats 1600000 in
theorem specRadiusOf_any (T S R : Nat) (X Y time : Int) (lev : Nat) (w : World) (hX : -128 ≤ X ∧ X ≤ 127) (hY : -128 ≤ Y ∧ Y ≤ 127) :
    Calls Try.prog 16 #[.agg #[.float .f32 T, .float .f32 S], .agg #[.int .i8 X, .int .i8 Y, .float .f32 R], .int .i64 time, .float .f32 lev] w (RetII (radR T S R X Y time lev) w) := by
  go_enter Try.func16, Try.ntmps16
  go_wp2_with (with_reducible refine wpList_box rfl ?_)
  intro bA wA hA1 hA2 hA3 hA4
  go_wp2_with (with_reducible refine wpList_box rfl ?_)
  intro bW wW hB1 hB2 hB3 hB4
  have HG1 := Lib.hid (hA3.later hB4)
  have HG2 := Lib.hid hB3
  have HB := Lib.hid (below_next hA4 hB4)
  clear hA3 hA4 hB3 hB4
  go_wp2_with fail
  refine (l03Plain_any lev wW).mono ?_
  rintro e w1 ⟨rfl, hb1⟩
  have G1 := Lib.hid (HG1.out.later hb1)
  have G2 := Lib.hid (HG2.out.later hb1)
  have HB1 := Lib.hid (below_next HB.out hb1)
  clear hb1
  cases hp : plain (fb lev)
  · have HR : Hid (radR T S R X Y time lev = (0, 1)) := by show (if _ then _ else _) = _; rw [hp]; rfl
    clear hp
    go_wp2_with fail
    go_ret2
    exact ⟨by rw [HR.out]; rfl, HB1.out⟩
  · have HP := Lib.hid hp
    clear hp
    go_wp2_with (first | ((with_reducible refine wpList_get G1.out Try.underlying30 rfl (by kernel_rfl) ?_ ?_); rfl) | ((with_reducible refine wpList_get G2.out Try.underlying32 rfl (by kernel_rfl) ?_ ?_); rfl))
    obtain ⟨c, hc⟩ : ∃ c, askW (okA (fb T) (fb S)) [⟨X, Y, R⟩] 0 0 [time] = c := ⟨_, rfl⟩
    have HC := Lib.hid hc
    clear hc
    refine (l03Asked_any T S _ [⟨X, Y, R⟩] 0 0 time _ (by simp) (wat_one hX hY (Blk.new' w1 _ _ rfl))).mono ?_
    rw [HC.out]
    rintro e w2 ⟨rfl, hb2⟩
    have HG3 := Lib.hid ((G1.out.alloc _).later hb2)
    have HG4 := Lib.hid ((G2.out.alloc _).later hb2)
    have HB2 := Lib.hid (below_next (HB1.out.alloc HB1.out.size _) hb2)
    clear hb2
    by_cases h0 : c = 0
    · subst h0
      have HM : Hid (1 ≤ time ∧ time ≤ 100000) := by obtain ⟨_, _, _, _, _, h⟩ := ask_down HC.out; exact mom_of (h time (by simp))
      have HWE := well_of ((ask_down HC.out).2.1 ⟨X, Y, R⟩ (by simp))
      have HAQ := (ask_down HC.out).1
      obtain ⟨⟨xx0, xx1⟩, yy0, yy1⟩ := HWE
      simp only at xx0 xx1 yy0 yy1
      have HD : Hid (∀ x : Int, X ≤ x ∧ x ≤ 100 → DownOk T S X Y x Y time) := fun x hx => ⟨HAQ, ⟨xx0, xx1⟩, ⟨yy0, yy1⟩, ⟨by omega, hx.2⟩, ⟨yy0, yy1⟩, HM.out⟩
      obtain ⟨N, hN⟩ : ∃ N, radN T S R X Y time lev = N := ⟨_, rfl⟩
      have HR : Hid (radR T S R X Y time lev = radV (N - X)) := by show (if _ then _ else _) = _; rw [HP.out, if_pos rfl, if_pos HC.out, hN]
      have HN : Hid (farK (fun x => downF (fb T) (fb S) (fb R) (x - X) (Y - Y) time) (fb lev) 201 X = N) := hN
      clear hN
      have hgt := order_gt
      have heq := order_eq
      have e0 : w2.cell? ⟨bW, 0, none⟩ = some (.int .i8 X) := HG4.out.at rfl
      clear HAQ
      go_wp2_with fail
      go_loopw [11] (fun v11 wr => RadRelS (fun x => downF (fb T) (fb S) (fb R) (x - X) (Y - Y) time) (fb lev) X N w2 v11 wr) (fun v11 _ => (101 - intOf v11).toNat)
      case atStart => exact ⟨X, by omega, by omega, rfl, by rw [show (201 - (X - X)).toNat = 201 by omega]; exact HN.out, Below.refl _ _⟩
      case round =>
        obtain ⟨x, x0, x1, rfl, hun, hBr⟩ := hrel
        have HU := Lib.hid hun
        have HBR := Lib.hid hBr
        have K3 := Lib.hid (HG3.out.later hBr)
        have K4 := Lib.hid (HG4.out.later hBr)
        have f0 : wr.cell? ⟨bW, 0, none⟩ = some (.int .i8 X) := K4.out.at rfl
        have f1 : wr.cell? ⟨bW, 1, none⟩ = some (.int .i8 Y) := K4.out.at rfl
        clear hun hBr e0
        by_cases hle : x ≤ 100
        · have a0 : wr.cell? ⟨bA, 0, none⟩ = some (.float .f32 T) := K3.out.at rfl
          have a1 : wr.cell? ⟨bA, 1, none⟩ = some (.float .f32 S) := K3.out.at rfl
          have f2 : wr.cell? ⟨bW, 2, none⟩ = some (.float .f32 R) := K4.out.at rfl
          cases hcmp : fge (downF (fb T) (fb S) (fb R) (x - X) (Y - Y) time) (fb lev)
          · have HCMP := Lib.hid hcmp
            clear hcmp
            have HU2 : Hid (N = x) := by
              show _ = _
              rw [← HU.out]
              exact farK_no HCMP.out
            by_cases hz : x = X
            · have HZ : Hid (radR T S R X Y time lev = (0, 6)) := by show _ = _; rw [HR.out, HU2.out]; exact radV_zero (by omega)
              subst hz
              go_wp2_with (go_at_call 51; refine (l03Drawdown_any T S R x Y x Y time _ (HD.out x ⟨x0, hle⟩)).mono ?_; rintro e w5 ⟨q, rfl, hq, hb5⟩; have f9 := cell_below hb5 f0; have hg : (fgt (fb q) (fb lev) || feq (fb q) (fb lev)) = false := by rw [hq.out]; exact HCMP.out)
              go_ret2
              exact ⟨by rw [HZ.out]; rfl, HB2.out.trans ((below_next HBR.out hb5).mono HB2.out.size)⟩
            · have HZ : Hid (radR T S R X Y time lev = (x - X - 1, 0)) := by show _ = _; rw [HR.out, HU2.out]; exact radV_some (by omega)
              have hz2 : ¬ x = X := hz
              go_wp2_with (go_at_call 51; refine (l03Drawdown_any T S R X Y x Y time _ (HD.out x ⟨x0, hle⟩)).mono ?_; rintro e w5 ⟨q, rfl, hq, hb5⟩; have f9 := cell_below hb5 f0; have hg : (fgt (fb q) (fb lev) || feq (fb q) (fb lev)) = false := by rw [hq.out]; exact HCMP.out)
              go_ret2
              refine ⟨?_, HB2.out.trans ((below_next HBR.out hb5).mono HB2.out.size)⟩
              first | (rw [HZ.out]; done) | (rw [HZ.out]; rfl) | (rw [HZ.out]; show Ending.returned (.tuple #[.int .i64 (x - 1 - X), .int .i64 0]) = _; rw [show x - 1 - X = x - X - 1 by omega])
          · have HCMP := Lib.hid hcmp
            clear hcmp
            go_wp2_with (go_at_call 51; refine (l03Drawdown_any T S R X Y x Y time _ (HD.out x ⟨x0, hle⟩)).mono ?_; rintro e w5 ⟨q, rfl, hq, hb5⟩; have f9 := cell_below hb5 f0; have hg : (fgt (fb q) (fb lev) || feq (fb q) (fb lev)) = true := by rw [hq.out]; exact HCMP.out)
            have HB5 := Lib.hid (below_next HBR.out hb5)
            have HU2 : Hid (farK (fun x => downF (fb T) (fb S) (fb R) (x - X) (Y - Y) time) (fb lev) (201 - (x + 1 - X)).toNat (x + 1) = N) := by
              show _ = _
              rw [← HU.out, show (201 - (x - X)).toNat = (201 - (x + 1 - X)).toNat + 1 by omega]
              exact (farK_yes hle HCMP.out).symm
            go_roundw
            case rel => exact ⟨x + 1, by omega, by omega, rfl, HU2.out, HB5.out⟩
            case measure => first | (simp [intOf]; done) | (simp [intOf]; omega)
        · have HU2 : Hid (N = x) := by
            show _ = _
            rw [← HU.out]
            exact farK_out hle
          by_cases hz : x = X
          · exact absurd hz (by omega)
          · have HZ : Hid (radR T S R X Y time lev = (x - X - 1, 0)) := by show _ = _; rw [HR.out, HU2.out]; exact radV_some (by omega)
            have hz2 : ¬ x = X := hz
            go_wp2_with fail
            go_ret2
            refine ⟨?_, HB2.out.trans (HBR.out.mono HB2.out.size)⟩
            first | (rw [HZ.out]; done) | (rw [HZ.out]; rfl) | (rw [HZ.out]; show Ending.returned (.tuple #[.int .i64 (x - 1 - X), .int .i64 0]) = _; rw [show x - 1 - X = x - X - 1 by omega])
    · have HR : Hid (radR T S R X Y time lev = (0, c)) := by show (if _ then _ else _) = _; rw [HP.out, if_pos rfl, HC.out, if_neg h0]
      go_wp2_with fail
      go_ret2
      exact ⟨by rw [HR.out]; rfl, HB2.out⟩

end Go.Proofs.Ytbhnnglpakdigaa
