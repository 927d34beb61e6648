/- The time until a drawdown: both sides. -/
import Derived.Test.YtbhnnglpakdigaaWasked
namespace Go.Proofs.Ytbhnnglpakdigaa
open Go.RowKit

def untilK (d : Int → F) (lev : F) : Nat → Int → Int × Int
  | 0, _ => (0, 6)
  | n + 1, t => if fge (d t) lev then (t, 0) else untilK d lev n (t + 1)
def timeR (T S R : Nat) (X Y x y : Int) (lev : Nat) (most : Int) : Int × Int :=
  if plain (fb lev) then
    (if askW (okA (fb T) (fb S)) [⟨X, Y, R⟩] x y [most] = 0 then untilK (fun t => downF (fb T) (fb S) (fb R) (x - X) (y - Y) t) (fb lev) most.toNat 1 else (0, askW (okA (fb T) (fb S)) [⟨X, Y, R⟩] x y [most]))
  else (0, 1)

theorem ask_down {A : Bool} {l : List We} {x y : Int} {ts : List Int} (h : askW A l x y ts = 0) : A = true ∧ (∀ e ∈ l, e.ok = true) ∧ l.length ≤ 12 ∧ placeB x = true ∧ placeB y = true ∧ ∀ t ∈ ts, momB t = true := by
  unfold askW at h
  split at h
  · rename_i h1
    split at h
    · exact absurd h (by decide)
    · rename_i h2
      split at h
      · rename_i h3
        simp only [Bool.and_eq_true] at h1 h3
        exact ⟨h1.1, fun e he => List.all_eq_true.1 h1.2 e he, by omega, h3.1.1, h3.1.2, fun t ht => List.all_eq_true.1 h3.2 t ht⟩
      · exact absurd h (by decide)
  · exact absurd h (by decide)
theorem place_of {n : Int} (h : placeB n = true) : -100 ≤ n ∧ n ≤ 100 := by
  unfold placeB at h
  rw [Bool.and_eq_true] at h
  exact ⟨of_decide_eq_true h.1, of_decide_eq_true h.2⟩
theorem mom_of {n : Int} (h : momB n = true) : 1 ≤ n ∧ n ≤ 100000 := by
  unfold momB at h
  rw [Bool.and_eq_true] at h
  exact ⟨of_decide_eq_true h.1, of_decide_eq_true h.2⟩
theorem well_of {e : We} (h : e.ok = true) : (-100 ≤ e.x ∧ e.x ≤ 100) ∧ (-100 ≤ e.y ∧ e.y ≤ 100) := by
  unfold We.ok wellB at h
  simp only [Bool.and_eq_true] at h
  exact ⟨place_of h.1.1, place_of h.1.2⟩
theorem down_of {T S : Nat} {l : List We} {x y t : Int} {ts : List Int} (h : askW (okA (fb T) (fb S)) l x y ts = 0) {e : We} (he : e ∈ l) (ht : 1 ≤ t ∧ t ≤ 100000) : DownOk T S e.x e.y x y t := by
  obtain ⟨h1, h2, _, h3, h4, _⟩ := ask_down h
  exact ⟨h1, (well_of (h2 e he)).1, (well_of (h2 e he)).2, place_of h3, place_of h4, ht⟩

theorem untilK_yes {d : Int → F} {lev : F} {n : Nat} {t : Int} (h : fge (d t) lev = true) : untilK d lev (n + 1) t = (t, 0) := by
  show (if _ then _ else _) = _; rw [h]; rfl
theorem untilK_no {d : Int → F} {lev : F} {n : Nat} {t : Int} (h : fge (d t) lev = false) : untilK d lev (n + 1) t = untilK d lev n (t + 1) := by
  show (if _ then _ else _) = _; rw [h]; rfl

theorem wat_one {w : World} {b : Nat} {X Y : Int} {R : Nat} {t : TypeId} (hX : -128 ≤ X ∧ X ≤ 127) (hY : -128 ≤ Y ∧ Y ≤ 127) (h : Blk w b #[.int .i8 X, .int .i8 Y, .float .f32 R] t) : WAt w (.slice (some ⟨b, 0, none⟩) 1 1) [⟨X, Y, R⟩] := by
  refine ⟨_, 1, rfl, fun j e he => ?_⟩
  cases j with
  | zero =>
    cases he
    refine ⟨⟨hX, hY⟩, b, rfl, fun i v hv => ?_⟩
    have := h.at (i := i) (v := v) (by simpa [We.cells] using hv)
    simpa using this
  | succ j => simp at he
theorem tat_list {w : World} {b : Nat} {ts : List Int} {t : TypeId} {cap : Nat} (h : Blk w b (ts.map fun z => Value.int .i64 z).toArray t) : TAt w (.slice (some ⟨b, 0, none⟩) ts.length cap) ts := by
  refine ⟨_, cap, rfl, fun j z hz => ⟨b, rfl, h.at ?_⟩⟩
  simp [hz]

/-- Two whole numbers are handed back. -/
def RetII (t : Int × Int) (w : World) (e : Ending) (w' : World) : Prop := e = .returned (.tuple #[.int .i64 t.1, .int .i64 t.2]) ∧ Below w.heap.size w w'
def TimeRel (d : Int → F) (lev : F) (most : Int) (w : World) (v15 : Value) (wr : World) : Prop :=
  ∃ t : Int, 1 ≤ t ∧ t ≤ most + 1 ∧ v15 = .int .i64 t ∧ untilK d lev (most + 1 - t).toNat t = untilK d lev most.toNat 1 ∧ Below w.heap.size w wr

set_option maxRecDepth 100000 in
set_option maxHeartbeats 1600000 in
theorem TimeUntil_any (T S R : Nat) (X Y x y : Int) (lev : Nat) (most : Int) (w : World) (hX : -128 ≤ X ∧ X ≤ 127) (hY : -128 ≤ Y ∧ Y ≤ 127) :
    Calls Try.prog 15 #[.agg #[.float .f32 T, .float .f32 S], .agg #[.int .i8 X, .int .i8 Y, .float .f32 R], .int .i64 x, .int .i64 y, .float .f32 lev, .int .i64 most] w (RetII (timeR T S R X Y x y lev most) w) := by
  go_enter Try.func15, Try.ntmps15
  go_wp2_with (with_reducible refine wpList_box rfl ?_)
  intro bA wA hA1 hA2 hA3 hA4
  go_wp2_with (with_reducible refine wpList_box rfl ?_)
  intro bW wW hB1 hB2 hB3 hB4
  have HG1 := Lib.hid (hA3.later hB4)
  have HG2 := Lib.hid hB3
  have HB := Lib.hid (below_next hA4 hB4)
  clear hA3 hA4 hB3 hB4
  go_wp2_with fail
  refine (IsPlain_any lev wW).mono ?_
  rintro e w1 ⟨rfl, hb1⟩
  have G1 := Lib.hid (HG1.out.later hb1)
  have G2 := Lib.hid (HG2.out.later hb1)
  have HB1 := Lib.hid (below_next HB.out hb1)
  clear hb1
  cases hp : plain (fb lev)
  · have HR : Hid (timeR T S R X Y x y lev most = (0, 1)) := by show (if _ then _ else _) = _; rw [hp]; rfl
    clear hp
    go_wp2_with fail
    go_ret2
    exact ⟨by rw [HR.out]; rfl, HB1.out⟩
  · have HP := Lib.hid hp
    clear hp
    go_wp2_with (first | ((with_reducible refine wpList_get G1.out Try.underlying30 rfl (by kernel_rfl) ?_ ?_); rfl) | ((with_reducible refine wpList_get G2.out Try.underlying32 rfl (by kernel_rfl) ?_ ?_); rfl))
    obtain ⟨c, hc⟩ : ∃ c, askW (okA (fb T) (fb S)) [⟨X, Y, R⟩] x y [most] = c := ⟨_, rfl⟩
    have HC := Lib.hid hc
    clear hc
    refine (momentsFault_any T S _ _ [⟨X, Y, R⟩] x y [most] _ (by simp) (wat_one hX hY ((Blk.new' w1 _ _ rfl).alloc _)) (by simp) (tat_list (ts := [most]) (Blk.new' _ _ _ (by simp)))).mono ?_
    rw [HC.out]
    rintro e w2 ⟨rfl, hb2⟩
    have HG3 := Lib.hid (((G1.out.alloc _).alloc _).later hb2)
    have HG4 := Lib.hid (((G2.out.alloc _).alloc _).later hb2)
    have HB2 := Lib.hid (below_next ((HB1.out.alloc HB1.out.size _).alloc (Nat.le_trans HB1.out.size (by simp)) _) hb2)
    clear hb2
    by_cases h0 : c = 0
    · subst h0
      have HM : Hid (1 ≤ most ∧ most ≤ 100000) := by obtain ⟨_, _, _, _, _, h⟩ := ask_down HC.out; exact mom_of (h most (by simp))
      have HD : Hid (∀ t : Int, 1 ≤ t ∧ t ≤ most → DownOk T S X Y x y t) := fun t ht => down_of (e := ⟨X, Y, R⟩) HC.out (by simp) ⟨ht.1, by have := HM.out.2; omega⟩
      have HR : Hid (timeR T S R X Y x y lev most = untilK (fun t => downF (fb T) (fb S) (fb R) (x - X) (y - Y) t) (fb lev) most.toNat 1) := by show (if _ then _ else _) = _; rw [HP.out, if_pos rfl, if_pos HC.out]
      obtain ⟨m0, m1⟩ := HM.out
      have hgt := order_gt
      have heq := order_eq
      go_wp2_with fail
      go_loopw [15] (fun v15 wr => TimeRel (fun t => downF (fb T) (fb S) (fb R) (x - X) (y - Y) t) (fb lev) most w2 v15 wr) (fun v15 _ => (most + 1 - intOf v15).toNat)
      case atStart => exact ⟨1, by omega, by omega, rfl, by rw [show most + 1 - 1 = most by omega], Below.refl _ _⟩
      case round =>
        obtain ⟨t, t0, t1, rfl, hun, hBr⟩ := hrel
        have HU := Lib.hid hun
        have HBR := Lib.hid hBr
        have K3 := Lib.hid (HG3.out.later hBr)
        have K4 := Lib.hid (HG4.out.later hBr)
        clear hun hBr
        by_cases hle : t ≤ most
        · go_wp2_with (first | ((with_reducible refine wpList_get K3.out Try.underlying30 rfl (by kernel_rfl) ?_ ?_); rfl) | ((with_reducible refine wpList_get K4.out Try.underlying32 rfl (by kernel_rfl) ?_ ?_); rfl))
          refine (drawdown_any T S R X Y x y t wr (HD.out t ⟨t0, hle⟩)).mono ?_
          rintro e w5 ⟨q, rfl, hq, hb5⟩
          have HQ := Lib.hid hq
          have HB5 := Lib.hid (below_next HBR.out hb5)
          clear hb5 hq
          cases hcmp : fge (downF (fb T) (fb S) (fb R) (x - X) (y - Y) t) (fb lev)
          · have hg : (fgt (fb q) (fb lev) || feq (fb q) (fb lev)) = false := by rw [HQ.out.out]; exact hcmp
            have HU2 : Hid (untilK (fun t => downF (fb T) (fb S) (fb R) (x - X) (y - Y) t) (fb lev) (most + 1 - (t + 1)).toNat (t + 1) = untilK (fun t => downF (fb T) (fb S) (fb R) (x - X) (y - Y) t) (fb lev) most.toNat 1) := by
              show _ = _
              rw [← HU.out, show (most + 1 - t).toNat = (most + 1 - (t + 1)).toNat + 1 by omega]
              exact (untilK_no hcmp).symm
            clear hcmp
            go_wp2_with fail
            go_roundw
            case rel => exact ⟨t + 1, by omega, by omega, rfl, HU2.out, HB5.out⟩
            case measure => simp [intOf]; omega
          · have hg : (fgt (fb q) (fb lev) || feq (fb q) (fb lev)) = true := by rw [HQ.out.out]; exact hcmp
            have HU2 : Hid (untilK (fun t => downF (fb T) (fb S) (fb R) (x - X) (y - Y) t) (fb lev) most.toNat 1 = (t, 0)) := by
              show _ = _
              rw [← HU.out, show (most + 1 - t).toNat = (most + 1 - (t + 1)).toNat + 1 by omega]
              exact untilK_yes hcmp
            clear hcmp
            go_wp2_with fail
            go_ret2
            exact ⟨by rw [HR.out, HU2.out]; rfl, HB2.out.trans (HB5.out.mono HB2.out.size)⟩
        · have HU2 : Hid (untilK (fun t => downF (fb T) (fb S) (fb R) (x - X) (y - Y) t) (fb lev) most.toNat 1 = (0, 6)) := by
            show _ = _
            rw [← HU.out, show (most + 1 - t).toNat = 0 by omega]
            rfl
          go_wp2_with fail
          go_ret2
          exact ⟨by rw [HR.out, HU2.out]; rfl, HB2.out.trans (HBR.out.mono HB2.out.size)⟩
    · have HR : Hid (timeR T S R X Y x y lev most = (0, c)) := by show (if _ then _ else _) = _; rw [HP.out, if_pos rfl, HC.out, if_neg h0]
      go_wp2_with fail
      go_ret2
      exact ⟨by rw [HR.out]; rfl, HB2.out⟩

set_option maxRecDepth 100000 in
set_option maxHeartbeats 1600000 in
theorem specTimeUntil_any (T S R : Nat) (X Y x y : Int) (lev : Nat) (most : Int) (w : World) (hX : -128 ≤ X ∧ X ≤ 127) (hY : -128 ≤ Y ∧ Y ≤ 127) :
    Calls Try.prog 12 #[.agg #[.float .f32 T, .float .f32 S], .agg #[.int .i8 X, .int .i8 Y, .float .f32 R], .int .i64 x, .int .i64 y, .float .f32 lev, .int .i64 most] w (RetII (timeR T S R X Y x y lev most) w) := by
  go_enter Try.func12, Try.ntmps12
  go_wp2_with (with_reducible refine wpList_box rfl ?_)
  intro bA wA hA1 hA2 hA3 hA4
  go_wp2_with (with_reducible refine wpList_box rfl ?_)
  intro bW wW hB1 hB2 hB3 hB4
  have HG1 := Lib.hid (hA3.later hB4)
  have HG2 := Lib.hid hB3
  have HB := Lib.hid (below_next hA4 hB4)
  clear hA3 hA4 hB3 hB4
  go_wp2_with fail
  refine (l03Plain_any lev wW).mono ?_
  rintro e w1 ⟨rfl, hb1⟩
  have G1 := Lib.hid (HG1.out.later hb1)
  have G2 := Lib.hid (HG2.out.later hb1)
  have HB1 := Lib.hid (below_next HB.out hb1)
  clear hb1
  cases hp : plain (fb lev)
  · have HR : Hid (timeR T S R X Y x y lev most = (0, 1)) := by show (if _ then _ else _) = _; rw [hp]; rfl
    clear hp
    go_wp2_with fail
    go_ret2
    exact ⟨by rw [HR.out]; rfl, HB1.out⟩
  · have HP := Lib.hid hp
    clear hp
    go_wp2_with (first | ((with_reducible refine wpList_get G1.out Try.underlying30 rfl (by kernel_rfl) ?_ ?_); rfl) | ((with_reducible refine wpList_get G2.out Try.underlying32 rfl (by kernel_rfl) ?_ ?_); rfl))
    obtain ⟨c, hc⟩ : ∃ c, askW (okA (fb T) (fb S)) [⟨X, Y, R⟩] x y [most] = c := ⟨_, rfl⟩
    have HC := Lib.hid hc
    clear hc
    refine (l03Asked_any T S _ [⟨X, Y, R⟩] x y most _ (by simp) (wat_one hX hY (Blk.new' w1 _ _ rfl))).mono ?_
    rw [HC.out]
    rintro e w2 ⟨rfl, hb2⟩
    have HG3 := Lib.hid ((G1.out.alloc _).later hb2)
    have HG4 := Lib.hid ((G2.out.alloc _).later hb2)
    have HB2 := Lib.hid (below_next (HB1.out.alloc HB1.out.size _) hb2)
    clear hb2
    by_cases h0 : c = 0
    · subst h0
      have HM : Hid (1 ≤ most ∧ most ≤ 100000) := by obtain ⟨_, _, _, _, _, h⟩ := ask_down HC.out; exact mom_of (h most (by simp))
      have HD : Hid (∀ t : Int, 1 ≤ t ∧ t ≤ most → DownOk T S X Y x y t) := fun t ht => down_of (e := ⟨X, Y, R⟩) HC.out (by simp) ⟨ht.1, by have := HM.out.2; omega⟩
      have HR : Hid (timeR T S R X Y x y lev most = untilK (fun t => downF (fb T) (fb S) (fb R) (x - X) (y - Y) t) (fb lev) most.toNat 1) := by show (if _ then _ else _) = _; rw [HP.out, if_pos rfl, if_pos HC.out]
      obtain ⟨m0, m1⟩ := HM.out
      have hgt := order_gt
      have heq := order_eq
      go_wp2_with fail
      go_loopw [15] (fun v15 wr => TimeRel (fun t => downF (fb T) (fb S) (fb R) (x - X) (y - Y) t) (fb lev) most w2 v15 wr) (fun v15 _ => (most + 1 - intOf v15).toNat)
      case atStart => exact ⟨1, by omega, by omega, rfl, by rw [show most + 1 - 1 = most by omega], Below.refl _ _⟩
      case round =>
        obtain ⟨t, t0, t1, rfl, hun, hBr⟩ := hrel
        have HU := Lib.hid hun
        have HBR := Lib.hid hBr
        have K3 := Lib.hid (HG3.out.later hBr)
        have K4 := Lib.hid (HG4.out.later hBr)
        clear hun hBr
        by_cases hle : t ≤ most
        · go_wp2_with (first | ((with_reducible refine wpList_get K3.out Try.underlying30 rfl (by kernel_rfl) ?_ ?_); rfl) | ((with_reducible refine wpList_get K4.out Try.underlying32 rfl (by kernel_rfl) ?_ ?_); rfl))
          refine (l03Drawdown_any T S R X Y x y t wr (HD.out t ⟨t0, hle⟩)).mono ?_
          rintro e w5 ⟨q, rfl, hq, hb5⟩
          have HQ := Lib.hid hq
          have HB5 := Lib.hid (below_next HBR.out hb5)
          clear hb5 hq
          cases hcmp : fge (downF (fb T) (fb S) (fb R) (x - X) (y - Y) t) (fb lev)
          · have hg : (fgt (fb q) (fb lev) || feq (fb q) (fb lev)) = false := by rw [HQ.out.out]; exact hcmp
            have HU2 : Hid (untilK (fun t => downF (fb T) (fb S) (fb R) (x - X) (y - Y) t) (fb lev) (most + 1 - (t + 1)).toNat (t + 1) = untilK (fun t => downF (fb T) (fb S) (fb R) (x - X) (y - Y) t) (fb lev) most.toNat 1) := by
              show _ = _
              rw [← HU.out, show (most + 1 - t).toNat = (most + 1 - (t + 1)).toNat + 1 by omega]
              exact (untilK_no hcmp).symm
            clear hcmp
            go_wp2_with fail
            go_roundw
            case rel => exact ⟨t + 1, by omega, by omega, rfl, HU2.out, HB5.out⟩
            case measure => simp [intOf]; omega
          · have hg : (fgt (fb q) (fb lev) || feq (fb q) (fb lev)) = true := by rw [HQ.out.out]; exact hcmp
            have HU2 : Hid (untilK (fun t => downF (fb T) (fb S) (fb R) (x - X) (y - Y) t) (fb lev) most.toNat 1 = (t, 0)) := by
              show _ = _
              rw [← HU.out, show (most + 1 - t).toNat = (most + 1 - (t + 1)).toNat + 1 by omega]
              exact untilK_yes hcmp
            clear hcmp
            go_wp2_with fail
            go_ret2
            exact ⟨by rw [HR.out, HU2.out]; rfl, HB2.out.trans (HB5.out.mono HB2.out.size)⟩
        · have HU2 : Hid (untilK (fun t => downF (fb T) (fb S) (fb R) (x - X) (y - Y) t) (fb lev) most.toNat 1 = (0, 6)) := by
            show _ = _
            rw [← HU.out, show (most + 1 - t).toNat = 0 by omega]
            rfl
          go_wp2_with fail
          go_ret2
          exact ⟨by rw [HR.out, HU2.out]; rfl, HB2.out.trans (HBR.out.mono HB2.out.size)⟩
    · have HR : Hid (timeR T S R X Y x y lev most = (0, c)) := by show (if _ then _ else _) = _; rw [HP.out, if_pos rfl, HC.out, if_neg h0]
      go_wp2_with fail
      go_ret2
      exact ⟨by rw [HR.out]; rfl, HB2.out⟩
end Go.Proofs.Ytbhnnglpakdigaa
