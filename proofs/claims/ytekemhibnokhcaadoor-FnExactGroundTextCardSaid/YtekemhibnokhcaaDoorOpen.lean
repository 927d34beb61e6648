/- A ground that comes in as an argument, opened. -/
import Derived.Test.YtekemhibnokhcaaDoorLeaf
import Derived.ProofKit
import Derived.OpenShut
namespace Go.Proofs.YtekemhibnokhcaaDoor
open Go.ChangeShapes Go.WideShapes Go.ChangeAt Go.RowKit

section
variable {H : Type} {enc : TypeId × Value → H} {w : World} {base fuel : Nat} {spare : Nat → Bool} {held : Bool} {cs : List Value} {x : DataW H × List MemPlace}

theorem trod_float {P : Program} {t : TypeId} {k : FloatKind} (ht : P.underlying t = some (.float k)) (h : DataW.trod enc P w base spare held fuel t cs = some x) : ∃ n, cs = [.float k n] ∧ (Lit.float k n).wf = true := by
  cases fuel with
  | zero => simp [DataW.trod] at h
  | succ n =>
    unfold DataW.trod at h
    rw [ht] at h
    split at h <;> simp_all

/-- The cells of an array of 64 floats are floats. -/
theorem trod_field {t : TypeId} (ht : Tryd.prog.underlying t = some (.array 64 30)) (hc : Tryd.prog.cellsOf t = 64)
    (h : DataW.trod enc Tryd.prog w base spare held fuel t cs = some x) : cs.length = 64 ∧ ∀ i, i < 64 → ∃ b, cs[i]? = some (.float .f32 b) ∧ b < 2 ^ 32 := by
  obtain ⟨xs, m, rfl, rfl, hl, hx, hi⟩ := DataW.trod_array ht h
  have h1 : Tryd.prog.cellsOf 30 = 1 := by kernel_rfl
  rw [hc] at hl
  refine ⟨hl, fun i h64 => ?_⟩
  have := hi i h64
  rw [h1, Nat.mul_one, List.getElem?_eq_getElem (by omega)] at this
  obtain ⟨b, hb, hw⟩ := trod_float Tryd.underlying30 this
  refine ⟨b, ?_, by simpa [Lit.wf] using hw⟩
  rw [List.drop_eq_getElem_cons (by omega), List.take_succ_cons, List.take_zero] at hb
  simp only [List.cons.injEq, and_true] at hb
  rw [List.getElem?_eq_getElem (by omega), hb]
end

def f32' : Value → Nat
  | .float _ b => b
  | _ => 0

/-- What is known of a ground's numbers: each fits its kind. -/
structure G.Fit (g : G) : Prop where
  rng : g.Rng
  fc : ∀ i, i < 64 → g.c i < 2 ^ 32
  fg : ∀ i, i < 64 → g.g i < 2 ^ 32
  fh : ∀ i, i < 64 → g.h i < 2 ^ 32
  ff : (Lit.int .u64 g.fixed).wf = true

theorem getD_some {l : List Value} {i : Nat} {v : Value} (h : l[i]? = some v) : l.getD i undef = v := by simp [List.getD, h]

set_option maxRecDepth 100000 in
/-- A list of the cells of a ground. -/
theorem ground_cells {H : Type} {enc : TypeId × Value → H} {w : World} {base fuel : Nat} {spare : Nat → Bool} {held : Bool} {cs : List Value} {x : DataW H × List MemPlace}
    (h : DataW.trod enc Tryd.prog w base spare held fuel 34 cs = some x) : ∃ g : G, cs.toArray = arrG g ∧ g.Fit := by
  obtain ⟨xs, n, rfl, rfl, hl, hx, hf⟩ := DataW.trod_struct Tryd.underlying34 h
  have hc : Tryd.prog.cellsOf 34 = 195 := by kernel_rfl
  have c8 : Tryd.prog.cellsOf 29 = 1 := by kernel_rfl
  have cu : Tryd.prog.cellsOf 32 = 1 := by kernel_rfl
  have ca : Tryd.prog.cellsOf 31 = 64 := by kernel_rfl
  rw [hc] at hl
  have hx6 : xs.length = 6 := hx
  have f0 : DataW.trod enc Tryd.prog w base spare held n 29 ((cs.drop 0).take (Tryd.prog.cellsOf 29)) = xs[0]? := hf 0 _ rfl
  have f1 : DataW.trod enc Tryd.prog w base spare held n 29 ((cs.drop 1).take (Tryd.prog.cellsOf 29)) = xs[1]? := hf 1 _ rfl
  have f2 : DataW.trod enc Tryd.prog w base spare held n 31 ((cs.drop 2).take (Tryd.prog.cellsOf 31)) = xs[2]? := hf 2 _ rfl
  have f3 : DataW.trod enc Tryd.prog w base spare held n 31 ((cs.drop 66).take (Tryd.prog.cellsOf 31)) = xs[3]? := hf 3 _ rfl
  have f4 : DataW.trod enc Tryd.prog w base spare held n 31 ((cs.drop 130).take (Tryd.prog.cellsOf 31)) = xs[4]? := hf 4 _ rfl
  have f5 : DataW.trod enc Tryd.prog w base spare held n 32 ((cs.drop 194).take (Tryd.prog.cellsOf 32)) = xs[5]? := hf 5 _ rfl
  rw [c8] at f0 f1
  rw [ca] at f2 f3 f4
  rw [cu] at f5
  rw [List.getElem?_eq_getElem (by omega)] at f0 f1 f2 f3 f4 f5
  obtain ⟨w0, e0, _, q0⟩ := DataW.trod_int Tryd.underlying29 f0
  obtain ⟨w1, e1, _, q1⟩ := DataW.trod_int Tryd.underlying29 f1
  obtain ⟨l2, a2⟩ := trod_field Tryd.underlying31 ca f2
  obtain ⟨l3, a3⟩ := trod_field Tryd.underlying31 ca f3
  obtain ⟨l4, a4⟩ := trod_field Tryd.underlying31 ca f4
  obtain ⟨w5, e5, _, q5⟩ := DataW.trod_int Tryd.underlying32 f5
  have g0 : cs[0]? = some (.int .i8 w0) := by
    have := congrArg (fun l => l[0]?) e0
    simpa [List.getElem?_take, List.getElem?_drop] using this
  have g1 : cs[1]? = some (.int .i8 w1) := by
    have := congrArg (fun l => l[0]?) e1
    simpa [List.getElem?_take, List.getElem?_drop] using this
  have g5 : cs[194]? = some (.int .u64 w5) := by
    have := congrArg (fun l => l[0]?) e5
    simpa [List.getElem?_take, List.getElem?_drop] using this
  have b2 : ∀ i, i < 64 → ∃ b, cs[2 + i]? = some (.float .f32 b) ∧ b < 2 ^ 32 := fun i hi => by
    obtain ⟨b, hb, hw⟩ := a2 i hi
    refine ⟨b, ?_, hw⟩
    rw [List.getElem?_take, if_pos hi, List.getElem?_drop] at hb
    exact hb
  have b3 : ∀ i, i < 64 → ∃ b, cs[66 + i]? = some (.float .f32 b) ∧ b < 2 ^ 32 := fun i hi => by
    obtain ⟨b, hb, hw⟩ := a3 i hi
    refine ⟨b, ?_, hw⟩
    rw [List.getElem?_take, if_pos hi, List.getElem?_drop] at hb
    exact hb
  have b4 : ∀ i, i < 64 → ∃ b, cs[130 + i]? = some (.float .f32 b) ∧ b < 2 ^ 32 := fun i hi => by
    obtain ⟨b, hb, hw⟩ := a4 i hi
    refine ⟨b, ?_, hw⟩
    rw [List.getElem?_take, if_pos hi, List.getElem?_drop] at hb
    exact hb
  refine ⟨⟨w0, w1, fun i => f32' (cs.getD (2 + i) undef), fun i => f32' (cs.getD (66 + i) undef), fun i => f32' (cs.getD (130 + i) undef), w5⟩, ?_, ?_⟩
  · apply Array.ext_getElem?
    intro i
    by_cases hi : i < 195
    · rw [arrG_get _ hi, List.getElem?_toArray]
      unfold G.cell
      by_cases h0 : i = 0
      · rw [if_pos h0, h0]; exact g0
      rw [if_neg h0]
      by_cases h1 : i = 1
      · rw [if_pos h1, h1]; exact g1
      rw [if_neg h1]
      by_cases h2 : i < 66
      · rw [if_pos h2]
        obtain ⟨b, hb, _⟩ := b2 (i - 2) (by omega)
        simp only [getD_some hb]
        rw [show 2 + (i - 2) = i by omega] at hb
        exact hb
      rw [if_neg h2]
      by_cases h3 : i < 130
      · rw [if_pos h3]
        obtain ⟨b, hb, _⟩ := b3 (i - 66) (by omega)
        simp only [getD_some hb]
        rw [show 66 + (i - 66) = i by omega] at hb
        exact hb
      rw [if_neg h3]
      by_cases h4 : i < 194
      · rw [if_pos h4]
        obtain ⟨b, hb, _⟩ := b4 (i - 130) (by omega)
        simp only [getD_some hb]
        rw [show 130 + (i - 130) = i by omega] at hb
        exact hb
      rw [if_neg h4, show i = 194 by omega]
      exact g5
    · rw [Array.getElem?_eq_none (xs := cs.toArray) (by simp only [List.size_toArray]; omega), Array.getElem?_eq_none (by rw [arrG_size]; omega)]
  · simp [Lit.wf, IntKind.min, IntKind.max, IntKind.signed, IntKind.bits] at q0 q1
    refine ⟨⟨by constructor <;> (simp only []; omega), by constructor <;> (simp only []; omega)⟩, fun i hi => ?_, fun i hi => ?_, fun i hi => ?_, q5⟩
    · obtain ⟨b, hb, hw⟩ := b2 i hi; simp only [getD_some hb]; exact hw
    · obtain ⟨b, hb, hw⟩ := b3 i hi; simp only [getD_some hb]; exact hw
    · obtain ⟨b, hb, hw⟩ := b4 i hi; simp only [getD_some hb]; exact hw

set_option maxRecDepth 100000 in
/-- A GROUND ARGUMENT, OPENED. -/
theorem open_ground {H : Type} {enc : TypeId × Value → H} {W : World} {r : Reach} {b0 base : Nat} {spare : Nat → Bool} {held : Bool} {v : Value} {d : DataW H} {ps : List MemPlace}
    (hv : Value.okWide Tryd.prog W r b0 34 v) (h : DataW.Trod enc Tryd.prog W base spare held 34 v d ps) : ∃ g : G, v = .agg (arrG g) ∧ g.Fit := by
  obtain ⟨cs, rfl, _⟩ := okWide_struct Tryd.underlying34 hv
  obtain ⟨fuel, hf⟩ := h
  obtain ⟨g, hg, hfit⟩ := ground_cells hf
  refine ⟨g, ?_, hfit⟩
  rw [← hg]
  simp [Value.cells]
end Go.Proofs.YtekemhibnokhcaaDoor
