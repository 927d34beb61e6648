/- A mixture of two brines: both sides. -/
import Derived.Test.YtfddjbpfahjleaaBrDec
namespace Go.Proofs.Ytfddjbpfahjleaa
open Go.RowKit

def mixOk (x : F) : Bool := fge x (fb 0) && fle x (fb 1065353216)
theorem mix_cases {x : F} (h : ford x (fb 0) ≠ none) : fle x (fb 1065353216) = !fgt x (fb 1065353216) := by
  have h2 : ford x (fb 1065353216) ≠ none := fun hn => h (ford_none (a := 1065353216) (by rw [fbOne] at hn; exact hn) (by decide))
  unfold fle flt feq fgt
  cases ho : ford x (fb 1065353216) with
  | none => exact absurd ho h2
  | some o => cases o <;> rfl
theorem mix_no {x : F} (h : mixOk x = false) : (fgt x (fb 0) = false ∧ feq x (fb 0) = false) ∨ (fgt x (fb 0) = true ∧ fgt x (fb 1065353216) = true ∧ flt x (fb 1065353216) = false ∧ feq x (fb 1065353216) = false) ∨
    (fgt x (fb 0) = false ∧ feq x (fb 0) = true ∧ fgt x (fb 1065353216) = true ∧ flt x (fb 1065353216) = false ∧ feq x (fb 1065353216) = false) := by
  unfold mixOk fge at h
  cases h1 : fgt x (fb 0) <;> cases h2 : feq x (fb 0) <;> simp [h1, h2] at h ⊢
  all_goals
    have hn : ford x (fb 0) ≠ none := by
      intro hn
      unfold fgt at h1
      unfold feq at h2
      rw [hn] at h1 h2
      simp at h1 h2
    have := mix_cases hn
    rw [h] at this
    unfold fle at h
    simp at h this
    exact ⟨this, h⟩
theorem mix_yes {x : F} (h : mixOk x = true) : (fgt x (fb 0) = true ∨ (fgt x (fb 0) = false ∧ feq x (fb 0) = true)) ∧ fgt x (fb 1065353216) = false ∧ (flt x (fb 1065353216) = true ∨ (flt x (fb 1065353216) = false ∧ feq x (fb 1065353216) = true)) := by
  unfold mixOk at h
  simp only [Bool.and_eq_true] at h
  obtain ⟨h1, h2⟩ := h
  have hn : ford x (fb 0) ≠ none := by
    intro hn
    unfold fge fgt feq at h1
    rw [hn] at h1
    simp at h1
  have h3 := mix_cases hn
  rw [h2] at h3
  refine ⟨?_, by simpa using h3, ?_⟩
  · unfold fge at h1
    cases hg : fgt x (fb 0)
    · rw [hg] at h1; exact .inr ⟨rfl, h1⟩
    · exact .inl rfl
  · unfold fle at h2
    cases hg : flt x (fb 1065353216)
    · rw [hg] at h2; exact .inr ⟨rfl, h2⟩
    · exact .inl rfl

def mixS (a b : N) (t : F) (c : Nat) : F := fadd (a.s c) (fmul t (fsub (b.s c) (a.s c)))
def mixN (a b : N) (t : F) : N := { a with s := updL a.s (mixS a b t) (cellsTo a.g.wide a.g.high 64) }
def mixR (a b : N) (t : F) : N × Int :=
  if okB a then (if okB b then (if mixOk t then (if a.g.wide = b.g.wide then (if a.g.high = b.g.high then (if okB (mixN a b t) then (mixN a b t, 0) else (B0.n, 4)) else (B0.n, 4)) else (B0.n, 4)) else (B0.n, 2)) else (B0.n, 1)) else (B0.n, 1)
section
variable {ops : Array Oper} {Q : Exit → Act → World → Prop} {rest : List Oper} {a : Act} {w : World} {dst : Option Tmp} {ty : TypeId} {X : Operand} {pos : String} {after : Array Edge} {B : Nat} {t : TypeId} {gd : Option (Nat × Bool)}
theorem wpList_getBgd {x : Br} (hgd : Region.wanted ⟨dst, .load 36 X, ty, pos, after, gd⟩ (yielded ops a.tmps) = true) (hg : Blk w B (arrB x) t) (hx : a.eval X = .pointer (some ⟨B, 0, none⟩))
    (h : wpList Try.prog ops Q rest (a.put dst (.agg (arrB x))) w) : wpList Try.prog ops Q (⟨dst, .load 36 X, ty, pos, after, gd⟩ :: rest) a w := by
  refine wpList_step fun K hK => ?_
  rw [if_pos hgd]
  unfold Oper.wp
  have hl := loadB hg
  have : (execOp a.eval ⟨dst, .load 36 X, ty, pos, after, gd⟩).run Try.prog w = .ok (.value (.agg (arrB x))) w := by
    simp only [execOp, hx, Instr.loadAt, Instr.sureAddr]
    simp [hl]
  rw [this]
  exact hK _ _ h
end
theorem rng_cell {w : World} {b : Nat} {x : Br} (h : BAt w b x) : w.cell? ⟨b, 0, none⟩ = some (.int .i8 x.gr.wide) ∧ w.cell? ⟨b, 1, none⟩ = some (.int .i8 x.gr.high) := ⟨h 0 (by omega), h 1 (by omega)⟩

set_option maxRecDepth 100000 in
set_option maxHeartbeats 3200000 in
theorem MixBrines_any (x y : Br) (t : Nat) (w : World) (hr : x.gr.Rng) (hx : x.gr.Fx) (hr' : y.gr.Rng) (hx' : y.gr.Fx) :
    Calls Try.prog 31 #[.agg (arrB x), .agg (arrB y), .float .f32 t] w (RetBC' (mixR x.n y.n (fb t)) w) := by
  have hgt' := order_gt
  have hlt' := order_lt
  have heq' := order_eq
  cases hok : okB x.n
  · have HW : Hid (mixR x.n y.n (fb t) = (B0.n, 1)) := by show _ = _; unfold mixR; rw [hok]; rfl
    have HOK := Lib.hid hok
    clear hok
    go_enter Try.func31, Try.ntmps31
    go_wp2_with (with_reducible refine wpList_box rfl ?_)
    intro b w0 hB1 hB2 hB3 hB4
    go_wp2_with (with_reducible refine wpList_box rfl ?_)
    intro c w1 hC1 hC2 hC3 hC4
    go_wp2_with (with_reducible refine wpList_new newB ?_)
    intro R w2 hR1 hR2 hR3 hR4
    have hX2 := (hB3.later hC4).later hR4
    have hY2 := hC3.later hR4
    have hbc : b < c := by have := hC1; omega
    have hcR : c < R := by have := hR1; omega
    have HB2 := Lib.hid ((hB4.trans (hC4.mono hB4.size)).trans (hR4.mono (Nat.le_trans hB4.size hC4.size)))
    have hwb : w.heap.size ≤ b := hB1
    have hwR : w.heap.size ≤ R := by omega
    clear hB3 hB4 hC3 hC4 hR4
    go_wp2_with ((with_reducible refine wpList_getB hX2 ?_ ?_); rfl)
    refine (ValidBrine_any x w2 hr hx).mono ?_
    rw [HOK.out]
    rintro e w3 ⟨rfl, hb3⟩
    have hX3 := hX2.later hb3
    have hY3 := hY2.later hb3
    have hR3' := hR3.later hb3
    have HB3 := Lib.hid (HB2.out.trans (hb3.mono HB2.out.size))
    clear hb3 hX2 hY2 hR3
    go_wp2_with (first | (with_reducible refine wpList_zero (zeroB _) ?_) | ((with_reducible refine wpList_putB (x := B0) hR3' ?_ ?_ ?_); rfl; rfl))
    intro w20 s20 b20 k20
    go_wp2_with fail
    refine ret_cell2 rfl rfl (loadB b20) rfl ⟨B0, by rw [HW.out]; rfl, by rw [HW.out], ?_⟩
    exact below_grown HB3.out k20 HB3.out.size hwR
  cases hoy : okB y.n
  · have HW : Hid (mixR x.n y.n (fb t) = (B0.n, 1)) := by show _ = _; unfold mixR; rw [hok, hoy]; rfl
    have HOK := Lib.hid hok
    have HOY := Lib.hid hoy
    clear hok hoy
    go_enter Try.func31, Try.ntmps31
    go_wp2_with (with_reducible refine wpList_box rfl ?_)
    intro b w0 hB1 hB2 hB3 hB4
    go_wp2_with (with_reducible refine wpList_box rfl ?_)
    intro c w1 hC1 hC2 hC3 hC4
    go_wp2_with (with_reducible refine wpList_new newB ?_)
    intro R w2 hR1 hR2 hR3 hR4
    have hX2 := (hB3.later hC4).later hR4
    have hY2 := hC3.later hR4
    have hbc : b < c := by have := hC1; omega
    have hcR : c < R := by have := hR1; omega
    have HB2 := Lib.hid ((hB4.trans (hC4.mono hB4.size)).trans (hR4.mono (Nat.le_trans hB4.size hC4.size)))
    have hwb : w.heap.size ≤ b := hB1
    have hwR : w.heap.size ≤ R := by omega
    clear hB3 hB4 hC3 hC4 hR4
    go_wp2_with ((with_reducible refine wpList_getB hX2 ?_ ?_); rfl)
    refine (ValidBrine_any x w2 hr hx).mono ?_
    rw [HOK.out]
    rintro e w3 ⟨rfl, hb3⟩
    have hX3 := hX2.later hb3
    have hY3 := hY2.later hb3
    have hR3' := hR3.later hb3
    have HB3 := Lib.hid (HB2.out.trans (hb3.mono HB2.out.size))
    clear hb3 hX2 hY2 hR3
    go_wp2_with ((with_reducible refine wpList_getBgd ?_ hY3 ?_ ?_); (exact rfl); rfl)
    refine (ValidBrine_any y w3 hr' hx').mono ?_
    rw [HOY.out]
    rintro e w4 ⟨rfl, hb4⟩
    have hX4 := hX3.later hb4
    have hY4 := hY3.later hb4
    have hR4 := hR3'.later hb4
    have HB4 := Lib.hid (HB3.out.trans (hb4.mono HB3.out.size))
    clear hb4 hX3 hY3 hR3'
    go_wp2_with (first | (with_reducible refine wpList_zero (zeroB _) ?_) | ((with_reducible refine wpList_putB (x := B0) hR4 ?_ ?_ ?_); rfl; rfl))
    intro w20 s20 b20 k20
    go_wp2_with fail
    refine ret_cell2 rfl rfl (loadB b20) rfl ⟨B0, by rw [HW.out]; rfl, by rw [HW.out], ?_⟩
    exact below_grown HB4.out k20 HB4.out.size hwR
  cases hsh : mixOk (fb t)
  · have HW : Hid (mixR x.n y.n (fb t) = (B0.n, 2)) := by show _ = _; unfold mixR; rw [hok, hoy, hsh]; rfl
    have HOK := Lib.hid hok
    have HOY := Lib.hid hoy
    rcases mix_no hsh with ⟨s1, s2⟩ | ⟨s1, s2, s3, s4⟩ | ⟨s1, s2, s3, s4, s5⟩
    · clear hok hoy hsh
      go_enter Try.func31, Try.ntmps31
      go_wp2_with (with_reducible refine wpList_box rfl ?_)
      intro b w0 hB1 hB2 hB3 hB4
      go_wp2_with (with_reducible refine wpList_box rfl ?_)
      intro c w1 hC1 hC2 hC3 hC4
      go_wp2_with (with_reducible refine wpList_new newB ?_)
      intro R w2 hR1 hR2 hR3 hR4
      have hX2 := (hB3.later hC4).later hR4
      have hY2 := hC3.later hR4
      have hbc : b < c := by have := hC1; omega
      have hcR : c < R := by have := hR1; omega
      have HB2 := Lib.hid ((hB4.trans (hC4.mono hB4.size)).trans (hR4.mono (Nat.le_trans hB4.size hC4.size)))
      have hwb : w.heap.size ≤ b := hB1
      have hwR : w.heap.size ≤ R := by omega
      clear hB3 hB4 hC3 hC4 hR4
      go_wp2_with ((with_reducible refine wpList_getB hX2 ?_ ?_); rfl)
      refine (ValidBrine_any x w2 hr hx).mono ?_
      rw [HOK.out]
      rintro e w3 ⟨rfl, hb3⟩
      have hX3 := hX2.later hb3
      have hY3 := hY2.later hb3
      have hR3' := hR3.later hb3
      have HB3 := Lib.hid (HB2.out.trans (hb3.mono HB2.out.size))
      clear hb3 hX2 hY2 hR3
      go_wp2_with ((with_reducible refine wpList_getBgd ?_ hY3 ?_ ?_); (exact rfl); rfl)
      refine (ValidBrine_any y w3 hr' hx').mono ?_
      rw [HOY.out]
      rintro e w4 ⟨rfl, hb4⟩
      have hX4 := hX3.later hb4
      have hY4 := hY3.later hb4
      have hR4 := hR3'.later hb4
      have HB4 := Lib.hid (HB3.out.trans (hb4.mono HB3.out.size))
      clear hb4 hX3 hY3 hR3'
      go_wp2_with (first | (with_reducible refine wpList_zero (zeroB _) ?_) | ((with_reducible refine wpList_putB (x := B0) hR4 ?_ ?_ ?_); rfl; rfl))
      intro w20 s20 b20 k20
      go_wp2_with fail
      refine ret_cell2 rfl rfl (loadB b20) rfl ⟨B0, by rw [HW.out]; rfl, by rw [HW.out], ?_⟩
      exact below_grown HB4.out k20 HB4.out.size hwR
    · clear hok hoy hsh
      go_enter Try.func31, Try.ntmps31
      go_wp2_with (with_reducible refine wpList_box rfl ?_)
      intro b w0 hB1 hB2 hB3 hB4
      go_wp2_with (with_reducible refine wpList_box rfl ?_)
      intro c w1 hC1 hC2 hC3 hC4
      go_wp2_with (with_reducible refine wpList_new newB ?_)
      intro R w2 hR1 hR2 hR3 hR4
      have hX2 := (hB3.later hC4).later hR4
      have hY2 := hC3.later hR4
      have hbc : b < c := by have := hC1; omega
      have hcR : c < R := by have := hR1; omega
      have HB2 := Lib.hid ((hB4.trans (hC4.mono hB4.size)).trans (hR4.mono (Nat.le_trans hB4.size hC4.size)))
      have hwb : w.heap.size ≤ b := hB1
      have hwR : w.heap.size ≤ R := by omega
      clear hB3 hB4 hC3 hC4 hR4
      go_wp2_with ((with_reducible refine wpList_getB hX2 ?_ ?_); rfl)
      refine (ValidBrine_any x w2 hr hx).mono ?_
      rw [HOK.out]
      rintro e w3 ⟨rfl, hb3⟩
      have hX3 := hX2.later hb3
      have hY3 := hY2.later hb3
      have hR3' := hR3.later hb3
      have HB3 := Lib.hid (HB2.out.trans (hb3.mono HB2.out.size))
      clear hb3 hX2 hY2 hR3
      go_wp2_with ((with_reducible refine wpList_getBgd ?_ hY3 ?_ ?_); (exact rfl); rfl)
      refine (ValidBrine_any y w3 hr' hx').mono ?_
      rw [HOY.out]
      rintro e w4 ⟨rfl, hb4⟩
      have hX4 := hX3.later hb4
      have hY4 := hY3.later hb4
      have hR4 := hR3'.later hb4
      have HB4 := Lib.hid (HB3.out.trans (hb4.mono HB3.out.size))
      clear hb4 hX3 hY3 hR3'
      go_wp2_with (first | (with_reducible refine wpList_zero (zeroB _) ?_) | ((with_reducible refine wpList_putB (x := B0) hR4 ?_ ?_ ?_); rfl; rfl))
      intro w20 s20 b20 k20
      go_wp2_with fail
      refine ret_cell2 rfl rfl (loadB b20) rfl ⟨B0, by rw [HW.out]; rfl, by rw [HW.out], ?_⟩
      exact below_grown HB4.out k20 HB4.out.size hwR
    · clear hok hoy hsh
      go_enter Try.func31, Try.ntmps31
      go_wp2_with (with_reducible refine wpList_box rfl ?_)
      intro b w0 hB1 hB2 hB3 hB4
      go_wp2_with (with_reducible refine wpList_box rfl ?_)
      intro c w1 hC1 hC2 hC3 hC4
      go_wp2_with (with_reducible refine wpList_new newB ?_)
      intro R w2 hR1 hR2 hR3 hR4
      have hX2 := (hB3.later hC4).later hR4
      have hY2 := hC3.later hR4
      have hbc : b < c := by have := hC1; omega
      have hcR : c < R := by have := hR1; omega
      have HB2 := Lib.hid ((hB4.trans (hC4.mono hB4.size)).trans (hR4.mono (Nat.le_trans hB4.size hC4.size)))
      have hwb : w.heap.size ≤ b := hB1
      have hwR : w.heap.size ≤ R := by omega
      clear hB3 hB4 hC3 hC4 hR4
      go_wp2_with ((with_reducible refine wpList_getB hX2 ?_ ?_); rfl)
      refine (ValidBrine_any x w2 hr hx).mono ?_
      rw [HOK.out]
      rintro e w3 ⟨rfl, hb3⟩
      have hX3 := hX2.later hb3
      have hY3 := hY2.later hb3
      have hR3' := hR3.later hb3
      have HB3 := Lib.hid (HB2.out.trans (hb3.mono HB2.out.size))
      clear hb3 hX2 hY2 hR3
      go_wp2_with ((with_reducible refine wpList_getBgd ?_ hY3 ?_ ?_); (exact rfl); rfl)
      refine (ValidBrine_any y w3 hr' hx').mono ?_
      rw [HOY.out]
      rintro e w4 ⟨rfl, hb4⟩
      have hX4 := hX3.later hb4
      have hY4 := hY3.later hb4
      have hR4 := hR3'.later hb4
      have HB4 := Lib.hid (HB3.out.trans (hb4.mono HB3.out.size))
      clear hb4 hX3 hY3 hR3'
      go_wp2_with (first | (with_reducible refine wpList_zero (zeroB _) ?_) | ((with_reducible refine wpList_putB (x := B0) hR4 ?_ ?_ ?_); rfl; rfl))
      intro w20 s20 b20 k20
      go_wp2_with fail
      refine ret_cell2 rfl rfl (loadB b20) rfl ⟨B0, by rw [HW.out]; rfl, by rw [HW.out], ?_⟩
      exact below_grown HB4.out k20 HB4.out.size hwR
  by_cases hw : x.gr.wide = y.gr.wide
  rotate_left
  · have HW : Hid (mixR x.n y.n (fb t) = (B0.n, 4)) := by show _ = _; unfold mixR; rw [hok, hoy, hsh, if_neg (show ¬ x.n.g.wide = y.n.g.wide from hw)]; rfl
    have HOK := Lib.hid hok
    have HOY := Lib.hid hoy
    obtain ⟨s0, s3, s5⟩ := mix_yes hsh
    clear hok hoy hsh
    have s1 : (fgt (fb t) (fb 0) || feq (fb t) (fb 0)) = true := by rcases s0 with h | ⟨h1, h2⟩ <;> simp_all
    have s4 : (flt (fb t) (fb 1065353216) || feq (fb t) (fb 1065353216)) = true := by rcases s5 with h | ⟨h1, h2⟩ <;> simp_all
    clear s0 s5
    go_enter Try.func31, Try.ntmps31
    go_wp2_with (with_reducible refine wpList_box rfl ?_)
    intro b w0 hB1 hB2 hB3 hB4
    go_wp2_with (with_reducible refine wpList_box rfl ?_)
    intro c w1 hC1 hC2 hC3 hC4
    go_wp2_with (with_reducible refine wpList_new newB ?_)
    intro R w2 hR1 hR2 hR3 hR4
    have hX2 := (hB3.later hC4).later hR4
    have hY2 := hC3.later hR4
    have hbc : b < c := by have := hC1; omega
    have hcR : c < R := by have := hR1; omega
    have HB2 := Lib.hid ((hB4.trans (hC4.mono hB4.size)).trans (hR4.mono (Nat.le_trans hB4.size hC4.size)))
    have hwb : w.heap.size ≤ b := hB1
    have hwR : w.heap.size ≤ R := by omega
    clear hB3 hB4 hC3 hC4 hR4
    go_wp2_with ((with_reducible refine wpList_getB hX2 ?_ ?_); rfl)
    refine (ValidBrine_any x w2 hr hx).mono ?_
    rw [HOK.out]
    rintro e w3 ⟨rfl, hb3⟩
    have hX3 := hX2.later hb3
    have hY3 := hY2.later hb3
    have hR3' := hR3.later hb3
    have HB3 := Lib.hid (HB2.out.trans (hb3.mono HB2.out.size))
    clear hb3 hX2 hY2 hR3
    go_wp2_with ((with_reducible refine wpList_getBgd ?_ hY3 ?_ ?_); (exact rfl); rfl)
    refine (ValidBrine_any y w3 hr' hx').mono ?_
    rw [HOY.out]
    rintro e w4 ⟨rfl, hb4⟩
    have hX4 := hX3.later hb4
    have hY4 := hY3.later hb4
    have hR4 := hR3'.later hb4
    have HB4 := Lib.hid (HB3.out.trans (hb4.mono HB3.out.size))
    clear hb4 hX3 hY3 hR3'
    have qx := rng_cell (BAt.of_blk hX4)
    have qy := rng_cell (BAt.of_blk hY4)
    obtain ⟨qx0, qx1⟩ := qx
    obtain ⟨qy0, qy1⟩ := qy
    go_wp2_with (first | (with_reducible refine wpList_zero (zeroB _) ?_) | ((with_reducible refine wpList_putB (x := B0) hR4 ?_ ?_ ?_); rfl; rfl))
    intro w20 s20 b20 k20
    go_wp2_with fail
    refine ret_cell2 rfl rfl (loadB b20) rfl ⟨B0, by rw [HW.out]; rfl, by rw [HW.out], ?_⟩
    exact below_grown HB4.out k20 HB4.out.size hwR
  by_cases hh : x.gr.high = y.gr.high
  rotate_left
  · have HW : Hid (mixR x.n y.n (fb t) = (B0.n, 4)) := by show _ = _; unfold mixR; rw [hok, hoy, hsh, if_pos (show x.n.g.wide = y.n.g.wide from hw), if_neg (show ¬ x.n.g.high = y.n.g.high from hh)]; rfl
    have HWE := Lib.hid hw
    clear hw
    have HOK := Lib.hid hok
    have HOY := Lib.hid hoy
    obtain ⟨s0, s3, s5⟩ := mix_yes hsh
    clear hok hoy hsh
    have s1 : (fgt (fb t) (fb 0) || feq (fb t) (fb 0)) = true := by rcases s0 with h | ⟨h1, h2⟩ <;> simp_all
    have s4 : (flt (fb t) (fb 1065353216) || feq (fb t) (fb 1065353216)) = true := by rcases s5 with h | ⟨h1, h2⟩ <;> simp_all
    clear s0 s5
    go_enter Try.func31, Try.ntmps31
    go_wp2_with (with_reducible refine wpList_box rfl ?_)
    intro b w0 hB1 hB2 hB3 hB4
    go_wp2_with (with_reducible refine wpList_box rfl ?_)
    intro c w1 hC1 hC2 hC3 hC4
    go_wp2_with (with_reducible refine wpList_new newB ?_)
    intro R w2 hR1 hR2 hR3 hR4
    have hX2 := (hB3.later hC4).later hR4
    have hY2 := hC3.later hR4
    have hbc : b < c := by have := hC1; omega
    have hcR : c < R := by have := hR1; omega
    have HB2 := Lib.hid ((hB4.trans (hC4.mono hB4.size)).trans (hR4.mono (Nat.le_trans hB4.size hC4.size)))
    have hwb : w.heap.size ≤ b := hB1
    have hwR : w.heap.size ≤ R := by omega
    clear hB3 hB4 hC3 hC4 hR4
    go_wp2_with ((with_reducible refine wpList_getB hX2 ?_ ?_); rfl)
    refine (ValidBrine_any x w2 hr hx).mono ?_
    rw [HOK.out]
    rintro e w3 ⟨rfl, hb3⟩
    have hX3 := hX2.later hb3
    have hY3 := hY2.later hb3
    have hR3' := hR3.later hb3
    have HB3 := Lib.hid (HB2.out.trans (hb3.mono HB2.out.size))
    clear hb3 hX2 hY2 hR3
    go_wp2_with ((with_reducible refine wpList_getBgd ?_ hY3 ?_ ?_); (exact rfl); rfl)
    refine (ValidBrine_any y w3 hr' hx').mono ?_
    rw [HOY.out]
    rintro e w4 ⟨rfl, hb4⟩
    have hX4 := hX3.later hb4
    have hY4 := hY3.later hb4
    have hR4 := hR3'.later hb4
    have HB4 := Lib.hid (HB3.out.trans (hb4.mono HB3.out.size))
    clear hb4 hX3 hY3 hR3'
    have qx := rng_cell (BAt.of_blk hX4)
    have qy := rng_cell (BAt.of_blk hY4)
    obtain ⟨qx0, qx1⟩ := qx
    obtain ⟨qy0, qy1⟩ := qy
    rw [← HWE.out] at qy0
    go_wp2_with (first | (with_reducible refine wpList_zero (zeroB _) ?_) | ((with_reducible refine wpList_putB (x := B0) hR4 ?_ ?_ ?_); rfl; rfl))
    intro w20 s20 b20 k20
    go_wp2_with fail
    refine ret_cell2 rfl rfl (loadB b20) rfl ⟨B0, by rw [HW.out]; rfl, by rw [HW.out], ?_⟩
    exact below_grown HB4.out k20 HB4.out.size hwR
  have HWE := Lib.hid hw
  have HHE := Lib.hid hh
  have HW0 : Hid (mixR x.n y.n (fb t) = (if okB (mixN x.n y.n (fb t)) then (mixN x.n y.n (fb t), 0) else (B0.n, 4))) := by
    show _ = _; unfold mixR; rw [hok, hoy, hsh, if_pos (show x.n.g.wide = y.n.g.wide from HWE.out), if_pos (show x.n.g.high = y.n.g.high from HHE.out)]; rfl
  clear hw hh
  have HOK := Lib.hid hok
  have HOY := Lib.hid hoy
  obtain ⟨s0, s3, s5⟩ := mix_yes hsh
  clear hok hoy hsh
  have s1 : (fgt (fb t) (fb 0) || feq (fb t) (fb 0)) = true := by rcases s0 with h | ⟨h1, h2⟩ <;> simp_all
  have s4 : (flt (fb t) (fb 1065353216) || feq (fb t) (fb 1065353216)) = true := by rcases s5 with h | ⟨h1, h2⟩ <;> simp_all
  clear s0 s5
  go_enter Try.func31, Try.ntmps31
  go_wp2_with (with_reducible refine wpList_box rfl ?_)
  intro b w0 hB1 hB2 hB3 hB4
  go_wp2_with (with_reducible refine wpList_box rfl ?_)
  intro c w1 hC1 hC2 hC3 hC4
  go_wp2_with (with_reducible refine wpList_new newB ?_)
  intro R w2 hR1 hR2 hR3 hR4
  have hX2 := (hB3.later hC4).later hR4
  have hY2 := hC3.later hR4
  have hbc : b < c := by have := hC1; omega
  have hcR : c < R := by have := hR1; omega
  have HB2 := Lib.hid ((hB4.trans (hC4.mono hB4.size)).trans (hR4.mono (Nat.le_trans hB4.size hC4.size)))
  have hwb : w.heap.size ≤ b := hB1
  have hwR : w.heap.size ≤ R := by omega
  clear hB3 hB4 hC3 hC4 hR4
  go_wp2_with ((with_reducible refine wpList_getB hX2 ?_ ?_); rfl)
  refine (ValidBrine_any x w2 hr hx).mono ?_
  rw [HOK.out]
  rintro e w3 ⟨rfl, hb3⟩
  have hX3 := hX2.later hb3
  have hY3 := hY2.later hb3
  have hR3' := hR3.later hb3
  have HB3 := Lib.hid (HB2.out.trans (hb3.mono HB2.out.size))
  clear hb3 hX2 hY2 hR3
  go_wp2_with ((with_reducible refine wpList_getBgd ?_ hY3 ?_ ?_); (exact rfl); rfl)
  refine (ValidBrine_any y w3 hr' hx').mono ?_
  rw [HOY.out]
  rintro e w4 ⟨rfl, hb4⟩
  have hX4 := hX3.later hb4
  have hY4 := hY3.later hb4
  have hR4 := hR3'.later hb4
  have HB4 := Lib.hid (HB3.out.trans (hb4.mono HB3.out.size))
  clear hb4 hX3 hY3 hR3'
  have qx := rng_cell (BAt.of_blk hX4)
  have qy := rng_cell (BAt.of_blk hY4)
  obtain ⟨qx0, qx1⟩ := qx
  obtain ⟨qy0, qy1⟩ := qy
  rw [← HWE.out] at qy0
  rw [← HHE.out] at qy1
  go_wp2_with fail
  refine (cells_any b 0 x.gr w4 hr (BAt.of_blk hX4).g).mono ?_
  rintro e w5 ⟨v, rfl, hown, hb5⟩
  obtain ⟨aL, cap, rfl, hL⟩ := list_form hown
  have HL := Lib.hid hL
  have HX5 := Lib.hid (hX4.later hb5)
  have HY5 := Lib.hid (BAt.of_blk (hY4.later hb5))
  have HR5 := Lib.hid (hR4.later hb5)
  have HB5 := Lib.hid (HB4.out.trans (hb5.mono HB4.out.size))
  have hlen := cellsTo_length x.gr.wide x.gr.high 64
  have hbl : b < w4.heap.size := hX4.lt
  have hRl : R < w5.heap.size := HR5.out.lt
  clear hL hown hb5 hX4 hY4 hR4 qx0 qx1 qy0 qy1
  go_wp2_with fail
  go_loopw [50] (fun vj wr => UpdRel x (mixS x.n y.n (fb t)) (fun j => (cellsTo x.gr.wide x.gr.high 64).take j) (cellsTo x.gr.wide x.gr.high 64).length w5 b vj wr) (fun vj _ => (cellsTo x.gr.wide x.gr.high 64).length - (intOf vj).toNat)
  case atStart => exact ⟨0, x.s, by omega, rfl, rfl, HX5.out, grown_refl _ _⟩
  case round =>
    obtain ⟨j, s', hj, rfl, hfs, hO, hgr⟩ := hrel
    have HGR := Lib.hid hgr
    have HFS := Lib.hid hfs
    have HO := Lib.hid hO
    have HY := Lib.hid (HY5.out.grown hgr (by omega))
    clear hgr hfs hO
    by_cases hlt : j < (cellsTo x.gr.wide x.gr.high 64).length
    · obtain ⟨d, hd⟩ : ∃ d, (cellsTo x.gr.wide x.gr.high 64)[j]? = some d := ⟨_, List.getElem?_eq_getElem hlt⟩
      have hc64 : d < 64 := cellsTo_lt (List.mem_of_getElem? hd)
      have hj64 : j < 64 := by omega
      obtain ⟨gq, rfl, hq1, hq2, hq3⟩ := HL.out j d hd
      have hcell := cell_grown hq3 HGR.out (by omega)
      have HC := Lib.hid hd
      have HS : Hid (fb (s' d) = fm x.s d) := by
        show _ = _
        rw [← fm_of hc64, HFS.out]; exact updL_same (cells_nodup _ _ _) hd
      have j1 : (j : Int) < ((cellsTo x.gr.wide x.gr.high 64).length : Int) := by omega
      have c1 : (d : Int) < 64 := by omega
      clear hq3 hd
      go_wp2_with fail
      have q1 := fun zz => ext_cell wr zz ((BAt.of_blk HO.out).s hc64)
      have q2 := fun zz => ext_cell wr zz (HY.out.s hc64)
      refine wp_soft_tail 18 (SF (some 0)) (by kernel_rfl) (by kernel_rfl) ?_
      simp only [List.take_succ_cons, List.take_zero, List.drop_succ_cons, List.drop_zero]
      repeat (first | (refine soft_arith (fun _ n h => h.drewN n) _ _ rfl rfl rfl ?_; intro r8 hr8) | (refine soft_step (fun K hK => ?_); go_simp; (try go_bits); refine hK _ ?_; clear hK K))
      rename_i rs hrs rq hrq
      refine soft_nil ?_
      rintro w5 hw5
      have HG5 := Lib.hid (grown_trans HGR.out (grown_below hw5.below))
      have hO5 := HO.out.later hw5.below
      have HV : Hid (fb r8 = mixS x.n y.n (fb t) d) := by
        show fb r8 = fadd (fm x.s d) (fmul (fb t) (fsub (fm y.s d) (fm x.s d)))
        rw [hr8.out, fop, hrq.out, fop, hrs.out, fop, HS.out, fm_of (f := y.s) hc64]
      clear hw5 q1 q2 hr8 hrq hrs
      go_wp2_with ((with_reducible refine wpList_gateS ?_); refine wpList_setS hO5 hc64 rfl rfl ?_)
      intro w7 s7 b7 k7
      have H7 := Lib.hid b7
      have HG7 := Lib.hid (grown_trans HG5.out k7)
      clear b7 k7 hO5
      go_wp2_with fail
      go_roundw
      case rel =>
        refine ⟨j + 1, upd s' d r8, by omega, by go_num, ?_, H7.out, HG7.out⟩
        dsimp only
        rw [take_more HC.out, updL_snoc, fm_upd hc64, HFS.out, HV.out]
      case measure => simp [intOf]; omega
    · have hjn : j = (cellsTo x.gr.wide x.gr.high 64).length := by omega
      have j1 : ¬ (j : Int) < ((cellsTo x.gr.wide x.gr.high 64).length : Int) := by omega
      have HN : Hid (({ x with s := s' } : Br).n = mixN x.n y.n (fb t)) := by
        show _ = _
        have := HFS.out
        dsimp only at this
        rw [List.take_of_length_le (Nat.le_of_eq hjn.symm)] at this
        exact n_of this
      clear hjn
      have HBw := Lib.hid (below_grown HB5.out HGR.out HB5.out.size hwb)
      have hRw := HR5.out.grown HGR.out (by omega)
      cases hok : okB (mixN x.n y.n (fb t))
      · have HOKM := Lib.hid hok
        have HW : Hid (mixR x.n y.n (fb t) = (B0.n, 4)) := by show _ = _; rw [HW0.out, hok]; rfl
        clear hok
        go_wp2_with ((with_reducible refine wpList_getB HO.out ?_ ?_); rfl)
        refine (ValidBrine_any { x with s := s' } wr hr hx).mono ?_
        rw [HN.out, HOKM.out]
        rintro e w8 ⟨rfl, hb8⟩
        have hR8 := hRw.later hb8
        have hO8 := HO.out.later hb8
        have HB8 := Lib.hid (HBw.out.trans (hb8.mono HBw.out.size))
        clear hb8
        go_wp2_with (first | (with_reducible refine wpList_zero (zeroB _) ?_) | ((with_reducible refine wpList_putB (x := B0) hR8 ?_ ?_ ?_); rfl; rfl))
        intro w20 s20 b20 k20
        go_wp2_with fail
        refine ret_cell2 rfl rfl (loadB b20) rfl ⟨B0, by rw [HW.out]; rfl, by rw [HW.out], ?_⟩
        exact below_grown HB8.out k20 HB8.out.size hwR
      · have HOKM := Lib.hid hok
        have HW : Hid (mixR x.n y.n (fb t) = (mixN x.n y.n (fb t), 0)) := by show _ = _; rw [HW0.out, hok]; rfl
        clear hok
        go_wp2_with ((with_reducible refine wpList_getB HO.out ?_ ?_); rfl)
        refine (ValidBrine_any { x with s := s' } wr hr hx).mono ?_
        rw [HN.out, HOKM.out]
        rintro e w8 ⟨rfl, hb8⟩
        have hR8 := hRw.later hb8
        have hO8 := HO.out.later hb8
        have HB8 := Lib.hid (HBw.out.trans (hb8.mono HBw.out.size))
        clear hb8
        go_wp2_with (first | ((with_reducible refine wpList_getB hO8 ?_ ?_); rfl) | ((with_reducible refine wpList_putB (x := { x with s := s' }) hR8 ?_ ?_ ?_); rfl; rfl))
        intro w20 s20 b20 k20
        go_wp2_with fail
        refine ret_cell2 rfl rfl (loadB b20) rfl ⟨{ x with s := s' }, by rw [HW.out]; rfl, by rw [HW.out]; exact HN.out, ?_⟩
        exact below_grown HB8.out k20 HB8.out.size hwR

set_option maxRecDepth 100000 in
set_option maxHeartbeats 3200000 in
theorem specMixBrines_any (x y : Br) (t : Nat) (w : World) (hr : x.gr.Rng) (hx : x.gr.Fx) (hr' : y.gr.Rng) (hx' : y.gr.Fx) :
    Calls Try.prog 30 #[.agg (arrB x), .agg (arrB y), .float .f32 t] w (RetBC' (mixR x.n y.n (fb t)) w) := by
  have hgt' := order_gt
  have hlt' := order_lt
  have heq' := order_eq
  cases hok : okB x.n
  · have HW : Hid (mixR x.n y.n (fb t) = (B0.n, 1)) := by show _ = _; unfold mixR; rw [hok]; rfl
    have HOK := Lib.hid hok
    clear hok
    go_enter Try.func30, Try.ntmps30
    go_wp2_with (with_reducible refine wpList_box rfl ?_)
    intro b w0 hB1 hB2 hB3 hB4
    go_wp2_with (with_reducible refine wpList_box rfl ?_)
    intro c w1 hC1 hC2 hC3 hC4
    go_wp2_with (with_reducible refine wpList_new newB ?_)
    intro R w2 hR1 hR2 hR3 hR4
    have hX2 := (hB3.later hC4).later hR4
    have hY2 := hC3.later hR4
    have hbc : b < c := by have := hC1; omega
    have hcR : c < R := by have := hR1; omega
    have HB2 := Lib.hid ((hB4.trans (hC4.mono hB4.size)).trans (hR4.mono (Nat.le_trans hB4.size hC4.size)))
    have hwb : w.heap.size ≤ b := hB1
    have hwR : w.heap.size ≤ R := by omega
    clear hB3 hB4 hC3 hC4 hR4
    go_wp2_with fail
    refine (l05Ok_any b x w2 hr hx (BAt.of_blk hX2)).mono ?_
    rw [HOK.out]
    rintro e w3 ⟨rfl, hb3⟩
    have hX3 := hX2.later hb3
    have hY3 := hY2.later hb3
    have hR3' := hR3.later hb3
    have HB3 := Lib.hid (HB2.out.trans (hb3.mono HB2.out.size))
    clear hb3 hX2 hY2 hR3
    go_wp2_with (first | (with_reducible refine wpList_zero (zeroB _) ?_) | ((with_reducible refine wpList_putB (x := B0) hR3' ?_ ?_ ?_); rfl; rfl))
    intro w20 s20 b20 k20
    go_wp2_with fail
    refine ret_cell2 rfl rfl (loadB b20) rfl ⟨B0, by rw [HW.out]; rfl, by rw [HW.out], ?_⟩
    exact below_grown HB3.out k20 HB3.out.size hwR
  cases hoy : okB y.n
  · have HW : Hid (mixR x.n y.n (fb t) = (B0.n, 1)) := by show _ = _; unfold mixR; rw [hok, hoy]; rfl
    have HOK := Lib.hid hok
    have HOY := Lib.hid hoy
    clear hok hoy
    go_enter Try.func30, Try.ntmps30
    go_wp2_with (with_reducible refine wpList_box rfl ?_)
    intro b w0 hB1 hB2 hB3 hB4
    go_wp2_with (with_reducible refine wpList_box rfl ?_)
    intro c w1 hC1 hC2 hC3 hC4
    go_wp2_with (with_reducible refine wpList_new newB ?_)
    intro R w2 hR1 hR2 hR3 hR4
    have hX2 := (hB3.later hC4).later hR4
    have hY2 := hC3.later hR4
    have hbc : b < c := by have := hC1; omega
    have hcR : c < R := by have := hR1; omega
    have HB2 := Lib.hid ((hB4.trans (hC4.mono hB4.size)).trans (hR4.mono (Nat.le_trans hB4.size hC4.size)))
    have hwb : w.heap.size ≤ b := hB1
    have hwR : w.heap.size ≤ R := by omega
    clear hB3 hB4 hC3 hC4 hR4
    go_wp2_with fail
    refine (l05Ok_any b x w2 hr hx (BAt.of_blk hX2)).mono ?_
    rw [HOK.out]
    rintro e w3 ⟨rfl, hb3⟩
    have hX3 := hX2.later hb3
    have hY3 := hY2.later hb3
    have hR3' := hR3.later hb3
    have HB3 := Lib.hid (HB2.out.trans (hb3.mono HB2.out.size))
    clear hb3 hX2 hY2 hR3
    go_wp2_with fail
    refine (l05Ok_any c y w3 hr' hx' (BAt.of_blk hY3)).mono ?_
    rw [HOY.out]
    rintro e w4 ⟨rfl, hb4⟩
    have hX4 := hX3.later hb4
    have hY4 := hY3.later hb4
    have hR4 := hR3'.later hb4
    have HB4 := Lib.hid (HB3.out.trans (hb4.mono HB3.out.size))
    clear hb4 hX3 hY3 hR3'
    go_wp2_with (first | (with_reducible refine wpList_zero (zeroB _) ?_) | ((with_reducible refine wpList_putB (x := B0) hR4 ?_ ?_ ?_); rfl; rfl))
    intro w20 s20 b20 k20
    go_wp2_with fail
    refine ret_cell2 rfl rfl (loadB b20) rfl ⟨B0, by rw [HW.out]; rfl, by rw [HW.out], ?_⟩
    exact below_grown HB4.out k20 HB4.out.size hwR
  cases hsh : mixOk (fb t)
  · have HW : Hid (mixR x.n y.n (fb t) = (B0.n, 2)) := by show _ = _; unfold mixR; rw [hok, hoy, hsh]; rfl
    have HOK := Lib.hid hok
    have HOY := Lib.hid hoy
    rcases mix_no hsh with ⟨s1, s2⟩ | ⟨s1, s2, s3, s4⟩ | ⟨s1, s2, s3, s4, s5⟩
    · clear hok hoy hsh
      go_enter Try.func30, Try.ntmps30
      go_wp2_with (with_reducible refine wpList_box rfl ?_)
      intro b w0 hB1 hB2 hB3 hB4
      go_wp2_with (with_reducible refine wpList_box rfl ?_)
      intro c w1 hC1 hC2 hC3 hC4
      go_wp2_with (with_reducible refine wpList_new newB ?_)
      intro R w2 hR1 hR2 hR3 hR4
      have hX2 := (hB3.later hC4).later hR4
      have hY2 := hC3.later hR4
      have hbc : b < c := by have := hC1; omega
      have hcR : c < R := by have := hR1; omega
      have HB2 := Lib.hid ((hB4.trans (hC4.mono hB4.size)).trans (hR4.mono (Nat.le_trans hB4.size hC4.size)))
      have hwb : w.heap.size ≤ b := hB1
      have hwR : w.heap.size ≤ R := by omega
      clear hB3 hB4 hC3 hC4 hR4
      go_wp2_with fail
      refine (l05Ok_any b x w2 hr hx (BAt.of_blk hX2)).mono ?_
      rw [HOK.out]
      rintro e w3 ⟨rfl, hb3⟩
      have hX3 := hX2.later hb3
      have hY3 := hY2.later hb3
      have hR3' := hR3.later hb3
      have HB3 := Lib.hid (HB2.out.trans (hb3.mono HB2.out.size))
      clear hb3 hX2 hY2 hR3
      go_wp2_with fail
      refine (l05Ok_any c y w3 hr' hx' (BAt.of_blk hY3)).mono ?_
      rw [HOY.out]
      rintro e w4 ⟨rfl, hb4⟩
      have hX4 := hX3.later hb4
      have hY4 := hY3.later hb4
      have hR4 := hR3'.later hb4
      have HB4 := Lib.hid (HB3.out.trans (hb4.mono HB3.out.size))
      clear hb4 hX3 hY3 hR3'
      go_wp2_with (first | (with_reducible refine wpList_zero (zeroB _) ?_) | ((with_reducible refine wpList_putB (x := B0) hR4 ?_ ?_ ?_); rfl; rfl))
      intro w20 s20 b20 k20
      go_wp2_with fail
      refine ret_cell2 rfl rfl (loadB b20) rfl ⟨B0, by rw [HW.out]; rfl, by rw [HW.out], ?_⟩
      exact below_grown HB4.out k20 HB4.out.size hwR
    · clear hok hoy hsh
      go_enter Try.func30, Try.ntmps30
      go_wp2_with (with_reducible refine wpList_box rfl ?_)
      intro b w0 hB1 hB2 hB3 hB4
      go_wp2_with (with_reducible refine wpList_box rfl ?_)
      intro c w1 hC1 hC2 hC3 hC4
      go_wp2_with (with_reducible refine wpList_new newB ?_)
      intro R w2 hR1 hR2 hR3 hR4
      have hX2 := (hB3.later hC4).later hR4
      have hY2 := hC3.later hR4
      have hbc : b < c := by have := hC1; omega
      have hcR : c < R := by have := hR1; omega
      have HB2 := Lib.hid ((hB4.trans (hC4.mono hB4.size)).trans (hR4.mono (Nat.le_trans hB4.size hC4.size)))
      have hwb : w.heap.size ≤ b := hB1
      have hwR : w.heap.size ≤ R := by omega
      clear hB3 hB4 hC3 hC4 hR4
      go_wp2_with fail
      refine (l05Ok_any b x w2 hr hx (BAt.of_blk hX2)).mono ?_
      rw [HOK.out]
      rintro e w3 ⟨rfl, hb3⟩
      have hX3 := hX2.later hb3
      have hY3 := hY2.later hb3
      have hR3' := hR3.later hb3
      have HB3 := Lib.hid (HB2.out.trans (hb3.mono HB2.out.size))
      clear hb3 hX2 hY2 hR3
      go_wp2_with fail
      refine (l05Ok_any c y w3 hr' hx' (BAt.of_blk hY3)).mono ?_
      rw [HOY.out]
      rintro e w4 ⟨rfl, hb4⟩
      have hX4 := hX3.later hb4
      have hY4 := hY3.later hb4
      have hR4 := hR3'.later hb4
      have HB4 := Lib.hid (HB3.out.trans (hb4.mono HB3.out.size))
      clear hb4 hX3 hY3 hR3'
      go_wp2_with (first | (with_reducible refine wpList_zero (zeroB _) ?_) | ((with_reducible refine wpList_putB (x := B0) hR4 ?_ ?_ ?_); rfl; rfl))
      intro w20 s20 b20 k20
      go_wp2_with fail
      refine ret_cell2 rfl rfl (loadB b20) rfl ⟨B0, by rw [HW.out]; rfl, by rw [HW.out], ?_⟩
      exact below_grown HB4.out k20 HB4.out.size hwR
    · clear hok hoy hsh
      go_enter Try.func30, Try.ntmps30
      go_wp2_with (with_reducible refine wpList_box rfl ?_)
      intro b w0 hB1 hB2 hB3 hB4
      go_wp2_with (with_reducible refine wpList_box rfl ?_)
      intro c w1 hC1 hC2 hC3 hC4
      go_wp2_with (with_reducible refine wpList_new newB ?_)
      intro R w2 hR1 hR2 hR3 hR4
      have hX2 := (hB3.later hC4).later hR4
      have hY2 := hC3.later hR4
      have hbc : b < c := by have := hC1; omega
      have hcR : c < R := by have := hR1; omega
      have HB2 := Lib.hid ((hB4.trans (hC4.mono hB4.size)).trans (hR4.mono (Nat.le_trans hB4.size hC4.size)))
      have hwb : w.heap.size ≤ b := hB1
      have hwR : w.heap.size ≤ R := by omega
      clear hB3 hB4 hC3 hC4 hR4
      go_wp2_with fail
      refine (l05Ok_any b x w2 hr hx (BAt.of_blk hX2)).mono ?_
      rw [HOK.out]
      rintro e w3 ⟨rfl, hb3⟩
      have hX3 := hX2.later hb3
      have hY3 := hY2.later hb3
      have hR3' := hR3.later hb3
      have HB3 := Lib.hid (HB2.out.trans (hb3.mono HB2.out.size))
      clear hb3 hX2 hY2 hR3
      go_wp2_with fail
      refine (l05Ok_any c y w3 hr' hx' (BAt.of_blk hY3)).mono ?_
      rw [HOY.out]
      rintro e w4 ⟨rfl, hb4⟩
      have hX4 := hX3.later hb4
      have hY4 := hY3.later hb4
      have hR4 := hR3'.later hb4
      have HB4 := Lib.hid (HB3.out.trans (hb4.mono HB3.out.size))
      clear hb4 hX3 hY3 hR3'
      go_wp2_with (first | (with_reducible refine wpList_zero (zeroB _) ?_) | ((with_reducible refine wpList_putB (x := B0) hR4 ?_ ?_ ?_); rfl; rfl))
      intro w20 s20 b20 k20
      go_wp2_with fail
      refine ret_cell2 rfl rfl (loadB b20) rfl ⟨B0, by rw [HW.out]; rfl, by rw [HW.out], ?_⟩
      exact below_grown HB4.out k20 HB4.out.size hwR
  by_cases hw : x.gr.wide = y.gr.wide
  rotate_left
  · have HW : Hid (mixR x.n y.n (fb t) = (B0.n, 4)) := by show _ = _; unfold mixR; rw [hok, hoy, hsh, if_neg (show ¬ x.n.g.wide = y.n.g.wide from hw)]; rfl
    have HOK := Lib.hid hok
    have HOY := Lib.hid hoy
    obtain ⟨s0, s3, s5⟩ := mix_yes hsh
    clear hok hoy hsh
    have s1 : (fgt (fb t) (fb 0) || feq (fb t) (fb 0)) = true := by rcases s0 with h | ⟨h1, h2⟩ <;> simp_all
    have s4 : (flt (fb t) (fb 1065353216) || feq (fb t) (fb 1065353216)) = true := by rcases s5 with h | ⟨h1, h2⟩ <;> simp_all
    clear s0 s5
    go_enter Try.func30, Try.ntmps30
    go_wp2_with (with_reducible refine wpList_box rfl ?_)
    intro b w0 hB1 hB2 hB3 hB4
    go_wp2_with (with_reducible refine wpList_box rfl ?_)
    intro c w1 hC1 hC2 hC3 hC4
    go_wp2_with (with_reducible refine wpList_new newB ?_)
    intro R w2 hR1 hR2 hR3 hR4
    have hX2 := (hB3.later hC4).later hR4
    have hY2 := hC3.later hR4
    have hbc : b < c := by have := hC1; omega
    have hcR : c < R := by have := hR1; omega
    have HB2 := Lib.hid ((hB4.trans (hC4.mono hB4.size)).trans (hR4.mono (Nat.le_trans hB4.size hC4.size)))
    have hwb : w.heap.size ≤ b := hB1
    have hwR : w.heap.size ≤ R := by omega
    clear hB3 hB4 hC3 hC4 hR4
    go_wp2_with fail
    refine (l05Ok_any b x w2 hr hx (BAt.of_blk hX2)).mono ?_
    rw [HOK.out]
    rintro e w3 ⟨rfl, hb3⟩
    have hX3 := hX2.later hb3
    have hY3 := hY2.later hb3
    have hR3' := hR3.later hb3
    have HB3 := Lib.hid (HB2.out.trans (hb3.mono HB2.out.size))
    clear hb3 hX2 hY2 hR3
    go_wp2_with fail
    refine (l05Ok_any c y w3 hr' hx' (BAt.of_blk hY3)).mono ?_
    rw [HOY.out]
    rintro e w4 ⟨rfl, hb4⟩
    have hX4 := hX3.later hb4
    have hY4 := hY3.later hb4
    have hR4 := hR3'.later hb4
    have HB4 := Lib.hid (HB3.out.trans (hb4.mono HB3.out.size))
    clear hb4 hX3 hY3 hR3'
    have qx := rng_cell (BAt.of_blk hX4)
    have qy := rng_cell (BAt.of_blk hY4)
    obtain ⟨qx0, qx1⟩ := qx
    obtain ⟨qy0, qy1⟩ := qy
    go_wp2_with (first | (with_reducible refine wpList_zero (zeroB _) ?_) | ((with_reducible refine wpList_putB (x := B0) hR4 ?_ ?_ ?_); rfl; rfl))
    intro w20 s20 b20 k20
    go_wp2_with fail
    refine ret_cell2 rfl rfl (loadB b20) rfl ⟨B0, by rw [HW.out]; rfl, by rw [HW.out], ?_⟩
    exact below_grown HB4.out k20 HB4.out.size hwR
  by_cases hh : x.gr.high = y.gr.high
  rotate_left
  · have HW : Hid (mixR x.n y.n (fb t) = (B0.n, 4)) := by show _ = _; unfold mixR; rw [hok, hoy, hsh, if_pos (show x.n.g.wide = y.n.g.wide from hw), if_neg (show ¬ x.n.g.high = y.n.g.high from hh)]; rfl
    have HWE := Lib.hid hw
    clear hw
    have HOK := Lib.hid hok
    have HOY := Lib.hid hoy
    obtain ⟨s0, s3, s5⟩ := mix_yes hsh
    clear hok hoy hsh
    have s1 : (fgt (fb t) (fb 0) || feq (fb t) (fb 0)) = true := by rcases s0 with h | ⟨h1, h2⟩ <;> simp_all
    have s4 : (flt (fb t) (fb 1065353216) || feq (fb t) (fb 1065353216)) = true := by rcases s5 with h | ⟨h1, h2⟩ <;> simp_all
    clear s0 s5
    go_enter Try.func30, Try.ntmps30
    go_wp2_with (with_reducible refine wpList_box rfl ?_)
    intro b w0 hB1 hB2 hB3 hB4
    go_wp2_with (with_reducible refine wpList_box rfl ?_)
    intro c w1 hC1 hC2 hC3 hC4
    go_wp2_with (with_reducible refine wpList_new newB ?_)
    intro R w2 hR1 hR2 hR3 hR4
    have hX2 := (hB3.later hC4).later hR4
    have hY2 := hC3.later hR4
    have hbc : b < c := by have := hC1; omega
    have hcR : c < R := by have := hR1; omega
    have HB2 := Lib.hid ((hB4.trans (hC4.mono hB4.size)).trans (hR4.mono (Nat.le_trans hB4.size hC4.size)))
    have hwb : w.heap.size ≤ b := hB1
    have hwR : w.heap.size ≤ R := by omega
    clear hB3 hB4 hC3 hC4 hR4
    go_wp2_with fail
    refine (l05Ok_any b x w2 hr hx (BAt.of_blk hX2)).mono ?_
    rw [HOK.out]
    rintro e w3 ⟨rfl, hb3⟩
    have hX3 := hX2.later hb3
    have hY3 := hY2.later hb3
    have hR3' := hR3.later hb3
    have HB3 := Lib.hid (HB2.out.trans (hb3.mono HB2.out.size))
    clear hb3 hX2 hY2 hR3
    go_wp2_with fail
    refine (l05Ok_any c y w3 hr' hx' (BAt.of_blk hY3)).mono ?_
    rw [HOY.out]
    rintro e w4 ⟨rfl, hb4⟩
    have hX4 := hX3.later hb4
    have hY4 := hY3.later hb4
    have hR4 := hR3'.later hb4
    have HB4 := Lib.hid (HB3.out.trans (hb4.mono HB3.out.size))
    clear hb4 hX3 hY3 hR3'
    have qx := rng_cell (BAt.of_blk hX4)
    have qy := rng_cell (BAt.of_blk hY4)
    obtain ⟨qx0, qx1⟩ := qx
    obtain ⟨qy0, qy1⟩ := qy
    rw [← HWE.out] at qy0
    go_wp2_with (first | (with_reducible refine wpList_zero (zeroB _) ?_) | ((with_reducible refine wpList_putB (x := B0) hR4 ?_ ?_ ?_); rfl; rfl))
    intro w20 s20 b20 k20
    go_wp2_with fail
    refine ret_cell2 rfl rfl (loadB b20) rfl ⟨B0, by rw [HW.out]; rfl, by rw [HW.out], ?_⟩
    exact below_grown HB4.out k20 HB4.out.size hwR
  have HWE := Lib.hid hw
  have HHE := Lib.hid hh
  have HW0 : Hid (mixR x.n y.n (fb t) = (if okB (mixN x.n y.n (fb t)) then (mixN x.n y.n (fb t), 0) else (B0.n, 4))) := by
    show _ = _; unfold mixR; rw [hok, hoy, hsh, if_pos (show x.n.g.wide = y.n.g.wide from HWE.out), if_pos (show x.n.g.high = y.n.g.high from HHE.out)]; rfl
  clear hw hh
  have HOK := Lib.hid hok
  have HOY := Lib.hid hoy
  obtain ⟨s0, s3, s5⟩ := mix_yes hsh
  clear hok hoy hsh
  have s1 : (fgt (fb t) (fb 0) || feq (fb t) (fb 0)) = true := by rcases s0 with h | ⟨h1, h2⟩ <;> simp_all
  have s4 : (flt (fb t) (fb 1065353216) || feq (fb t) (fb 1065353216)) = true := by rcases s5 with h | ⟨h1, h2⟩ <;> simp_all
  clear s0 s5
  go_enter Try.func30, Try.ntmps30
  go_wp2_with (with_reducible refine wpList_box rfl ?_)
  intro b w0 hB1 hB2 hB3 hB4
  go_wp2_with (with_reducible refine wpList_box rfl ?_)
  intro c w1 hC1 hC2 hC3 hC4
  go_wp2_with (with_reducible refine wpList_new newB ?_)
  intro R w2 hR1 hR2 hR3 hR4
  have hX2 := (hB3.later hC4).later hR4
  have hY2 := hC3.later hR4
  have hbc : b < c := by have := hC1; omega
  have hcR : c < R := by have := hR1; omega
  have HB2 := Lib.hid ((hB4.trans (hC4.mono hB4.size)).trans (hR4.mono (Nat.le_trans hB4.size hC4.size)))
  have hwb : w.heap.size ≤ b := hB1
  have hwR : w.heap.size ≤ R := by omega
  clear hB3 hB4 hC3 hC4 hR4
  go_wp2_with fail
  refine (l05Ok_any b x w2 hr hx (BAt.of_blk hX2)).mono ?_
  rw [HOK.out]
  rintro e w3 ⟨rfl, hb3⟩
  have hX3 := hX2.later hb3
  have hY3 := hY2.later hb3
  have hR3' := hR3.later hb3
  have HB3 := Lib.hid (HB2.out.trans (hb3.mono HB2.out.size))
  clear hb3 hX2 hY2 hR3
  go_wp2_with fail
  refine (l05Ok_any c y w3 hr' hx' (BAt.of_blk hY3)).mono ?_
  rw [HOY.out]
  rintro e w4 ⟨rfl, hb4⟩
  have hX4 := hX3.later hb4
  have hY4 := hY3.later hb4
  have hR4 := hR3'.later hb4
  have HB4 := Lib.hid (HB3.out.trans (hb4.mono HB3.out.size))
  clear hb4 hX3 hY3 hR3'
  have qx := rng_cell (BAt.of_blk hX4)
  have qy := rng_cell (BAt.of_blk hY4)
  obtain ⟨qx0, qx1⟩ := qx
  obtain ⟨qy0, qy1⟩ := qy
  rw [← HWE.out] at qy0
  rw [← HHE.out] at qy1
  have HX4 := Lib.hid hX4
  have HY4 := Lib.hid (BAt.of_blk hY4)
  have HR4 := Lib.hid hR4
  have hbl : b < w4.heap.size := hX4.lt
  have hRl : R < w4.heap.size := hR4.lt
  clear hX4 hY4 hR4
  go_wp2_with fail
  clear qx0 qx1 qy0 qy1
  go_loopw [8] (fun vj wr => UpdRel x (mixS x.n y.n (fb t)) (fun j => cellsTo x.gr.wide x.gr.high j) 64 w4 b vj wr) (fun vj _ => 64 - (intOf vj).toNat)
  case atStart => exact ⟨0, x.s, by omega, rfl, rfl, HX4.out, grown_refl _ _⟩
  case round =>
    obtain ⟨k, s', hk, rfl, hfs, hO, hgr⟩ := hrel
    have HGR := Lib.hid hgr
    have HFS := Lib.hid hfs
    have HO := Lib.hid hO
    have HGA : Hid (GAt wr b 0 x.gr) := (BAt.of_blk hO).g
    have HY := Lib.hid (HY4.out.grown hgr (by omega))
    clear hgr hfs hO
    by_cases hlt : k < 64
    · have k1 : (k : Int) < 64 := by omega
      cases hh : hasB x.gr.wide x.gr.high k
      · have HH := Lib.hid hh
        clear hh
        go_wp2_with (go_at_call 43; refine (l01Is_any b 0 k x.gr _ hlt hr HGA.out).mono ?_; rw [HH.out]; rintro e w' ⟨rfl, rfl⟩)
        go_roundw
        case rel => exact ⟨k + 1, s', by omega, by go_num, by dsimp only; rw [cellsTo_no HH.out]; exact HFS.out, HO.out, HGR.out⟩
        case measure => simp [intOf]; omega
      · have HH := Lib.hid hh
        have HS : Hid (fb (s' k) = fm x.s k) := by
          show _ = _
          rw [← fm_of hlt, HFS.out]; exact updL_out cellsTo_out
        clear hh
        go_wp2_with (go_at_call 43; refine (l01Is_any b 0 k x.gr _ hlt hr HGA.out).mono ?_; rw [HH.out]; rintro e w' ⟨rfl, rfl⟩)
        have q1 := fun zz => ext_cell wr zz ((BAt.of_blk HO.out).s hlt)
        have q2 := fun zz => ext_cell wr zz (HY.out.s hlt)
        refine wp_soft_tail 19 (SF (some 0)) (by kernel_rfl) (by kernel_rfl) ?_
        simp only [List.take_succ_cons, List.take_zero, List.drop_succ_cons, List.drop_zero]
        repeat (first | (refine soft_arith (fun _ n h => h.drewN n) _ _ rfl rfl rfl ?_; intro r8 hr8) | (refine soft_step (fun K hK => ?_); go_simp; (try go_bits); refine hK _ ?_; clear hK K))
        rename_i rs hrs rq hrq
        refine soft_nil ?_
        rintro w5 hw5
        have HG5 := Lib.hid (grown_trans HGR.out (grown_below hw5.below))
        have hO5 := HO.out.later hw5.below
        have HV : Hid (fb r8 = mixS x.n y.n (fb t) k) := by
          show fb r8 = fadd (fm x.s k) (fmul (fb t) (fsub (fm y.s k) (fm x.s k)))
          rw [hr8.out, fop, hrq.out, fop, hrs.out, fop, HS.out, fm_of (f := y.s) hlt]
        clear hw5 q1 q2 hr8 hrq hrs
        go_wp2_with ((with_reducible refine wpList_gateS ?_); refine wpList_setS hO5 hlt rfl rfl ?_)
        intro w7 s7 b7 k7
        have H7 := Lib.hid b7
        have HG7 := Lib.hid (grown_trans HG5.out k7)
        clear b7 k7 hO5
        go_wp2_with fail
        go_roundw
        case rel =>
          refine ⟨k + 1, upd s' k r8, by omega, by go_num, ?_, H7.out, HG7.out⟩
          dsimp only
          rw [cellsTo_yes HH.out, updL_snoc, fm_upd hlt, HFS.out, HV.out]
        case measure => simp [intOf]; omega
    · obtain rfl : k = 64 := by omega
      have HN : Hid (({ x with s := s' } : Br).n = mixN x.n y.n (fb t)) := n_of HFS.out
      have HBw := Lib.hid (below_grown HB4.out HGR.out HB4.out.size hwb)
      have hRw := HR4.out.grown HGR.out (by omega)
      cases hok : okB (mixN x.n y.n (fb t))
      · have HOKM := Lib.hid hok
        have HW : Hid (mixR x.n y.n (fb t) = (B0.n, 4)) := by show _ = _; rw [HW0.out, hok]; rfl
        clear hok
        go_wp2_with fail
        refine (l05Ok_any b { x with s := s' } wr hr hx (BAt.of_blk HO.out)).mono ?_
        rw [HN.out, HOKM.out]
        rintro e w8 ⟨rfl, hb8⟩
        have hR8 := hRw.later hb8
        have hO8 := HO.out.later hb8
        have HB8 := Lib.hid (HBw.out.trans (hb8.mono HBw.out.size))
        clear hb8
        go_wp2_with (first | (with_reducible refine wpList_zero (zeroB _) ?_) | ((with_reducible refine wpList_putB (x := B0) hR8 ?_ ?_ ?_); rfl; rfl))
        intro w20 s20 b20 k20
        go_wp2_with fail
        refine ret_cell2 rfl rfl (loadB b20) rfl ⟨B0, by rw [HW.out]; rfl, by rw [HW.out], ?_⟩
        exact below_grown HB8.out k20 HB8.out.size hwR
      · have HOKM := Lib.hid hok
        have HW : Hid (mixR x.n y.n (fb t) = (mixN x.n y.n (fb t), 0)) := by show _ = _; rw [HW0.out, hok]; rfl
        clear hok
        go_wp2_with fail
        refine (l05Ok_any b { x with s := s' } wr hr hx (BAt.of_blk HO.out)).mono ?_
        rw [HN.out, HOKM.out]
        rintro e w8 ⟨rfl, hb8⟩
        have hR8 := hRw.later hb8
        have hO8 := HO.out.later hb8
        have HB8 := Lib.hid (HBw.out.trans (hb8.mono HBw.out.size))
        clear hb8
        go_wp2_with (first | ((with_reducible refine wpList_getB hO8 ?_ ?_); rfl) | ((with_reducible refine wpList_putB (x := { x with s := s' }) hR8 ?_ ?_ ?_); rfl; rfl))
        intro w20 s20 b20 k20
        go_wp2_with fail
        refine ret_cell2 rfl rfl (loadB b20) rfl ⟨{ x with s := s' }, by rw [HW.out]; rfl, by rw [HW.out]; exact HN.out, ?_⟩
        exact below_grown HB8.out k20 HB8.out.size hwR

end Go.Proofs.Ytfddjbpfahjleaa
