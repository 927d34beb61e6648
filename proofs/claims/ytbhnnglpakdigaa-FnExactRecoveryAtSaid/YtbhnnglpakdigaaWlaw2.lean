/- The laws on a time: its walk. -/
import Derived.Test.YtbhnnglpakdigaaWlaw
namespace Go.Proofs.Ytbhnnglpakdigaa
open Go.RowKit

/-- The words of a law's callees: two copies, and one whose result has a property. -/
def SLaw (a b : FuncId) (Pf : Value → Prop) (f : FuncId) (args : Array Value) (v : Value) : Prop := (f = a ∧ v = args.getD 0 undef) ∨ (f = b ∧ v = args.getD 0 undef) ∨ (f ≠ a ∧ f ≠ b ∧ Pf v)
theorem slaw_id {a b f : FuncId} {Pf : Value → Prop} {args : Array Value} {v : Value} (h : SLaw a b Pf f args v) (hf : f = a ∨ f = b) : v = args.getD 0 undef := by
  rcases h with ⟨_, h⟩ | ⟨_, h⟩ | ⟨h1, h2, _⟩
  · exact h
  · exact h
  · rcases hf with h | h
    · exact absurd h h1
    · exact absurd h h2
theorem slaw_val {a b f : FuncId} {Pf : Value → Prop} {args : Array Value} {v : Value} (h : SLaw a b Pf f args v) (ha : f ≠ a) (hb : f ≠ b) : Pf v := by
  rcases h with ⟨h, _⟩ | ⟨h, _⟩ | ⟨_, _, h⟩
  · exact absurd h ha
  · exact absurd h hb
  · exact h

set_option maxRecDepth 100000 in
set_option maxHeartbeats 3200000 in
theorem law_TimeUntil (T S : Nat) (X Y : Int) (R : Nat) (x y : Int) (lev : Nat) (most : Int) (w : World) (hX : -128 ≤ X ∧ X ≤ 127) (hY : -128 ≤ Y ∧ Y ≤ 127) :
    Calls Try.prog 3 #[.agg #[.float .f32 T, .float .f32 S], .agg #[.int .i8 X, .int .i8 Y, .float .f32 R], .int .i64 x, .int .i64 y, .float .f32 lev, .int .i64 most] w (RetB true w) := by
  obtain ⟨rr, hrr⟩ : ∃ rr, timeR T S R X Y x y lev most = rr := ⟨_, rfl⟩
  have HRR := Lib.hid hrr
  clear hrr
  obtain ⟨r1, r2⟩ := rr
  go_enter Try.func3, Try.ntmps3
  go_wp2_with (with_reducible refine wpList_box rfl ?_)
  intro bA wA hA1 hA2 hA3 hA4
  go_wp2_with (with_reducible refine wpList_box rfl ?_)
  intro bW wW hB1 hB2 hB3 hB4
  have HG1 := Lib.hid (hA3.later hB4)
  have HG2 := Lib.hid hB3
  have HB := Lib.hid (below_next hA4 hB4)
  clear hA3 hA4 hB3 hB4
  have c00 := fun z => ext_cell wW z (HG1.out.at (i := 0) rfl)
  have c01 := fun z => ext_cell wW z (HG1.out.at (i := 1) rfl)
  have d00 := fun z => ext_cell wW z (HG2.out.at (i := 0) rfl)
  have d01 := fun z => ext_cell wW z (HG2.out.at (i := 1) rfl)
  have d02 := fun z => ext_cell wW z (HG2.out.at (i := 2) rfl)
  go_wp2_with fail
  refine wp_soft (SLaw 13 14 (fun v => v = .tuple #[.int .i64 r1, .int .i64 r2])) (by kernel_rfl) (by kernel_rfl) ?_
  repeat (first | (refine soft_step (fun K hK => ?_); go_simp; (try go_bits); refine hK _ ?_; clear hK K) | (refine soft_step (fun K hK => ?_); go_simp; refine ⟨_, _, ⟨rfl, rfl⟩, fun zz => ?_, ?_⟩; ((with_reducible refine (toAquifer_any T S _).mono ?_); rintro e w1 ⟨he, hb⟩; exact ⟨_, he, .inl ⟨rfl, rfl⟩, hb⟩); rintro v hv; obtain rfl := slaw_id hv (.inl rfl); refine hK _ ?_; clear hK K hv) | (refine soft_step (fun K hK => ?_); go_simp; refine ⟨_, _, ⟨rfl, rfl⟩, fun zz => ?_, ?_⟩; ((with_reducible refine (toWell_any X Y R _).mono ?_); rintro e w1 ⟨he, hb⟩; exact ⟨_, he, .inr (.inl ⟨rfl, rfl⟩), hb⟩); rintro v hv; obtain rfl := slaw_id hv (.inr rfl); refine hK _ ?_; clear hK K hv) | (refine soft_step (fun K hK => ?_); go_simp; refine ⟨_, _, ⟨rfl, rfl⟩, fun zz => ?_, ?_⟩; ((with_reducible refine (specTimeUntil_any T S R X Y x y lev most _ hX hY).mono ?_); rw [HRR.out]; rintro e w1 ⟨he, hb⟩; exact ⟨_, he, .inr (.inr ⟨by decide, by decide, rfl⟩), hb⟩); rintro v hv; obtain rfl := slaw_val hv (by decide) (by decide); refine hK _ ?_; clear hK K))
  refine soft_nil ?_
  rintro w5 hw5
  have HB5 := Lib.hid (below_next HB.out hw5.below)
  have HG3 := Lib.hid (HG1.out.later hw5.below)
  have HG4 := Lib.hid (HG2.out.later hw5.below)
  clear hw5 c00 c01 d00 d01 d02
  have c10 := fun z => ext_cell w5 z (HG3.out.at (i := 0) rfl)
  have c11 := fun z => ext_cell w5 z (HG3.out.at (i := 1) rfl)
  have d10 := fun z => ext_cell w5 z (HG4.out.at (i := 0) rfl)
  have d11 := fun z => ext_cell w5 z (HG4.out.at (i := 1) rfl)
  have d12 := fun z => ext_cell w5 z (HG4.out.at (i := 2) rfl)
  go_wp2_with fail
  refine wp_soft (SLaw 13 14 (fun v => v = .tuple #[.int .i64 r1, .int .i64 r2])) (by kernel_rfl) (by kernel_rfl) ?_
  repeat (first | (refine soft_step (fun K hK => ?_); go_simp; (try go_bits); refine hK _ ?_; clear hK K) | (refine soft_step (fun K hK => ?_); go_simp; refine ⟨_, _, ⟨rfl, rfl⟩, fun zz => ?_, ?_⟩; ((with_reducible refine (toAquifer_any T S _).mono ?_); rintro e w1 ⟨he, hb⟩; exact ⟨_, he, .inl ⟨rfl, rfl⟩, hb⟩); rintro v hv; obtain rfl := slaw_id hv (.inl rfl); refine hK _ ?_; clear hK K hv) | (refine soft_step (fun K hK => ?_); go_simp; refine ⟨_, _, ⟨rfl, rfl⟩, fun zz => ?_, ?_⟩; ((with_reducible refine (toWell_any X Y R _).mono ?_); rintro e w1 ⟨he, hb⟩; exact ⟨_, he, .inr (.inl ⟨rfl, rfl⟩), hb⟩); rintro v hv; obtain rfl := slaw_id hv (.inr rfl); refine hK _ ?_; clear hK K hv) | (refine soft_step (fun K hK => ?_); go_simp; refine ⟨_, _, ⟨rfl, rfl⟩, fun zz => ?_, ?_⟩; ((with_reducible refine (TimeUntil_any T S R X Y x y lev most _ hX hY).mono ?_); rw [HRR.out]; rintro e w1 ⟨he, hb⟩; exact ⟨_, he, .inr (.inr ⟨by decide, by decide, rfl⟩), hb⟩); rintro v hv; obtain rfl := slaw_val hv (by decide) (by decide); refine hK _ ?_; clear hK K))
  refine soft_nil ?_
  rintro w6 hw6
  have HB6 := Lib.hid (below_next HB5.out hw6.below)
  clear hw6 c10 c11 d10 d11 d12
  go_wp2_with fail
  go_ret
  exact ⟨rfl, HB6.out⟩
end Go.Proofs.Ytbhnnglpakdigaa
