/- The drawdown of a well: the walk. -/
import Derived.Test.YtonmdkhfongmhaaWarg
import Derived.Still
namespace Go.Proofs.Ytonmdkhfongmhaa
open Go.RowKit

set_option maxHeartbeats 400000 in
theorem fourPi_any (w : World) : Calls Try.prog 127 #[] w fun e w' => e = .returned (.float .f32 1095307227) ∧ w = w' := by
  go_enter Try.func127, Try.ntmps127
  go_wp2_with fail
  go_ret
  exact ⟨rfl, rfl⟩

/-- What is asked of an aquifer, a well, a place and a time. -/
structure DownOk (T S : Nat) (X Y x y t : Int) : Prop where
  aq : okA (fb T) (fb S) = true
  hX : -100 ≤ X ∧ X ≤ 100
  hY : -100 ≤ Y ∧ Y ≤ 100
  hx : -100 ≤ x ∧ x ≤ 100
  hy : -100 ≤ y ∧ y ≤ 100
  ht : 1 ≤ t ∧ t ≤ 100000
theorem DownOk.mid {T S : Nat} {X Y x y t : Int} (h : DownOk T S X Y x y t) (hm : fgt (argF (fb T) (fb S) (x - X) (y - Y) t) c80 = false) : Mid (argF (fb T) (fb S) (x - X) (y - Y) t) := by
  have h1 := h.hX
  have h2 := h.hY
  have h3 := h.hx
  have h4 := h.hy
  obtain ⟨v, hv, hv1⟩ := arg_val h.aq (dx := x - X) (dy := y - Y) (t := t) (by omega) (by omega) h.ht.1 h.ht.2
  rw [fgt_val hv c80_val] at hm
  have := of_decide_eq_false hm
  exact ⟨⟨v, hv, hv1, by omega⟩⟩

set_option maxRecDepth 100000 in
set_option maxHeartbeats 1600000 in
theorem drawdown_any (T S R : Nat) (X Y x y t : Int) (w : World) (h : DownOk T S X Y x y t) :
    Calls Try.prog 108 #[.agg #[.float .f32 T, .float .f32 S], .agg #[.int .i8 X, .int .i8 Y, .float .f32 R], .int .i64 x, .int .i64 y, .int .i64 t] w (RetF (downF (fb T) (fb S) (fb R) (x - X) (y - Y) t) w) := by
  obtain ⟨A, hA⟩ : ∃ A, argF (fb T) (fb S) (x - X) (y - Y) t = A := ⟨_, rfl⟩
  have HM : fgt A c80 = false → Mid A := by rw [← hA]; exact h.mid
  have HA := Lib.hid hA
  have H := Lib.hid h
  have hgt := order_gt
  clear hA h
  go_enter Try.func108, Try.ntmps108
  go_wp2_with (with_reducible refine wpList_box rfl ?_)
  intro bA wA hA1 hA2 hA3 hA4
  go_wp2_with (with_reducible refine wpList_box rfl ?_)
  intro bW wW hB1 hB2 hB3 hB4
  have HG1 := Lib.hid (hA3.later hB4)
  have HG2 := Lib.hid hB3
  have HB := Lib.hid (below_next hA4 hB4)
  clear hA3 hA4 hB3 hB4
  go_wp2_with (first | ((with_reducible refine wpList_get HG1.out Try.underlying42 rfl (by kernel_rfl) ?_ ?_); rfl) | ((with_reducible refine wpList_get HG2.out Try.underlying44 rfl (by kernel_rfl) ?_ ?_); rfl))
  refine (argument_any T S R X Y x y t wW H.out.aq H.out.hX H.out.hY H.out.hx H.out.hy H.out.ht).mono ?_
  rw [HA.out]
  rintro e w1 ⟨q, rfl, hq, hb1⟩
  have G1 := HG1.out.later hb1
  have G2 := HG2.out.later hb1
  have HB1 := Lib.hid (below_next HB.out hb1)
  have HQ := Lib.hid hq
  clear hb1
  cases hc : fgt A c80
  · have hf : fgt (fb q) (fb 1117782016) = false := by rw [hq.out]; exact hc
    have HMID := Lib.hid (HM hc)
    have HF : Hid (downF (fb T) (fb S) (fb R) (x - X) (y - Y) t = fmul (fdiv (fb R) (fmul (fb 1095307227) (fb T))) (wellF A)) := by
      show (if _ then _ else _) = _
      rw [HA.out, hc]; rfl
    clear hc hq HM
    go_wp2_with fail
    refine (WellFunction_any q A w1 HQ.out HMID.out).mono ?_
    rintro e w2 ⟨f, rfl, hfw, hb2⟩
    have a0 := fun z => ext_cell w2 z ((G1.later hb2).at (i := 0) rfl)
    have c2 := fun z => ext_cell w2 z ((G2.later hb2).at (i := 2) rfl)
    have HB2 := Lib.hid (below_next HB1.out hb2)
    have HFW := Lib.hid hfw
    clear hb2 G1 G2 hfw
    go_wp2_with fail
    refine wp_soft (SV (.float .f32 1095307227)) (by kernel_rfl) (by kernel_rfl) ?_
    repeat (first | (refine soft_arith (fun _ n h => h.drewN n) _ _ rfl rfl rfl ?_; intro r hr) | (refine soft_step (fun K hK => ?_); go_simp; (try go_bits); refine hK _ ?_; clear hK K) | (refine soft_step (fun K hK => ?_); go_simp; refine ⟨_, _, ⟨rfl, rfl⟩, fun x => (fourPi_any _).mono ?_, ?_⟩; (rintro e w1 ⟨he, rfl⟩; exact ⟨_, he, rfl, Below.refl _ _⟩); rintro v rfl; refine hK _ ?_; clear hK K))
    refine soft_nil ?_
    rintro w5 hw5
    have HB5 := Lib.hid (below_next HB2.out hw5.below)
    clear hw5
    go_wp2_with fail
    go_ret
    rename_i r2 h2 r1 h1
    refine ⟨_, rfl, ?_, HB5.out⟩
    show fb _ = _
    rw [HF.out]
    simp only [hr.out, h1.out, h2.out, HFW.out.out, fop]
  · have hf : fgt (fb q) (fb 1117782016) = true := by rw [hq.out]; exact hc
    have HF : Hid (downF (fb T) (fb S) (fb R) (x - X) (y - Y) t = some 0) := by
      show (if _ then _ else _) = _
      rw [HA.out, hc]; rfl
    clear hc hq HM
    go_wp2_with fail
    go_ret
    exact ⟨0, rfl, by rw [HF.out]; exact fb0, HB1.out⟩

set_option maxRecDepth 100000 in
set_option maxHeartbeats 1600000 in
theorem l03Drawdown_any (T S R : Nat) (X Y x y t : Int) (w : World) (h : DownOk T S X Y x y t) :
    Calls Try.prog 101 #[.agg #[.float .f32 T, .float .f32 S], .agg #[.int .i8 X, .int .i8 Y, .float .f32 R], .int .i64 x, .int .i64 y, .int .i64 t] w (RetF (downF (fb T) (fb S) (fb R) (x - X) (y - Y) t) w) := by
  obtain ⟨A, hA⟩ : ∃ A, argF (fb T) (fb S) (x - X) (y - Y) t = A := ⟨_, rfl⟩
  have HM : fgt A c80 = false → Mid A := by rw [← hA]; exact h.mid
  have HA := Lib.hid hA
  have H := Lib.hid h
  have hgt := order_gt
  clear hA h
  go_enter Try.func101, Try.ntmps101
  go_wp2_with (with_reducible refine wpList_box rfl ?_)
  intro bA wA hA1 hA2 hA3 hA4
  go_wp2_with (with_reducible refine wpList_box rfl ?_)
  intro bW wW hB1 hB2 hB3 hB4
  have HG1 := Lib.hid (hA3.later hB4)
  have HG2 := Lib.hid hB3
  have HB := Lib.hid (below_next hA4 hB4)
  clear hA3 hA4 hB3 hB4
  go_wp2_with (first | ((with_reducible refine wpList_get HG1.out Try.underlying42 rfl (by kernel_rfl) ?_ ?_); rfl) | ((with_reducible refine wpList_get HG2.out Try.underlying44 rfl (by kernel_rfl) ?_ ?_); rfl))
  refine (l03Argument_any T S R X Y x y t wW H.out.aq H.out.hX H.out.hY H.out.hx H.out.hy H.out.ht).mono ?_
  rw [HA.out]
  rintro e w1 ⟨q, rfl, hq, hb1⟩
  have G1 := HG1.out.later hb1
  have G2 := HG2.out.later hb1
  have HB1 := Lib.hid (below_next HB.out hb1)
  have HQ := Lib.hid hq
  clear hb1
  cases hc : fgt A c80
  · have hf : fgt (fb q) (fb 1117782016) = false := by rw [hq.out]; exact hc
    have HMID := Lib.hid (HM hc)
    have HF : Hid (downF (fb T) (fb S) (fb R) (x - X) (y - Y) t = fmul (fdiv (fb R) (fmul (fb 1095307227) (fb T))) (wellF A)) := by
      show (if _ then _ else _) = _
      rw [HA.out, hc]; rfl
    have a0 : w1.cell? ⟨bA, 0, none⟩ = some (.float .f32 T) := G1.at rfl
    have c2 : w1.cell? ⟨bW, 2, none⟩ = some (.float .f32 R) := G2.at rfl
    clear hc hq HM G1 G2
    go_wp2_with (first | ((with_reducible refine wpList_gate ?_); refine wpList_arith _ _ rfl rfl rfl ?_; intro r n hr) | (go_at_call 119; refine (l03Well_any q A _ HQ.out HMID.out).mono ?_; rintro e w2 ⟨f, rfl, hfw, hb2⟩))
    rename_i r2 n2 h2 r1 n1 h1
    go_ret
    refine ⟨_, rfl, ?_, below_drawn (below_next (below_drawn HB1.out _) hb2) _⟩
    show fb _ = _
    rw [HF.out]
    simp only [hr.out, h1.out, h2.out, hfw.out, fop]
  · have hf : fgt (fb q) (fb 1117782016) = true := by rw [hq.out]; exact hc
    have HF : Hid (downF (fb T) (fb S) (fb R) (x - X) (y - Y) t = some 0) := by
      show (if _ then _ else _) = _
      rw [HA.out, hc]; rfl
    clear hc hq HM
    go_wp2_with fail
    go_ret
    exact ⟨0, rfl, by rw [HF.out]; exact fb0, HB1.out⟩
end Go.Proofs.Ytonmdkhfongmhaa
