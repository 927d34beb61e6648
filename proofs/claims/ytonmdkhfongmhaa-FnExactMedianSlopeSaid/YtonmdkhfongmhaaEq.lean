/- The laws' comparisons of fields tell equal ones as equal; their copies are copies. -/
import Derived.Test.YtonmdkhfongmhaaSame
namespace Go.Proofs.Ytonmdkhfongmhaa
open Go.RowKit

theorem order_self {d : Ieee.Datum} (h : d.isNaN = false) : d.order d = some .eq := by
  cases d with
  | number s m e => simp [Ieee.Datum.order]
  | infinity s => simp [Ieee.Datum.order]
  | nan s t => cases h

theorem db_none {a : Nat} (h : db a = none) (x : Nat) : FloatKind.f64.format.order a x = none := by
  have hn : (Ieee.double.read a).isNaN = true := by
    unfold db fbOf at h
    split at h
    · assumption
    · cases h
  show Ieee.double.order a x = none
  unfold Ieee.Format.order
  exact order_nan_l hn
theorem db_some {a b : Nat} (h : db a = some b) : a = b ∧ FloatKind.f64.format.order a a = some .eq := by
  unfold db fbOf at h
  split at h
  · cases h
  · rename_i hn
    cases h
    refine ⟨rfl, ?_⟩
    show Ieee.double.order a a = _
    unfold Ieee.Format.order
    exact order_self (by simpa using hn)

theorem zero_of_eq {a : Nat} (h : FloatKind.f64.format.order a 0 = some .eq) : ∃ s e, Ieee.double.read a = .number s 0 e := by
  have h' : (Ieee.double.read a).order (Ieee.double.read 0) = some .eq := h
  have h0 : Ieee.double.read 0 = .number false 0 (-1074) := by decide
  rw [h0] at h'
  cases hd : Ieee.double.read a with
  | number s m e =>
    rw [hd] at h'
    simp only [Ieee.Datum.order, Option.some.injEq] at h'
    have h2 := Int.compare_eq_eq.1 h'
    have h3 : Ieee.signed false 0 (-1074 - min e (-1074)).toNat = 0 := by simp [Ieee.signed]
    rw [h3] at h2
    have h4 : m <<< (e - min e (-1074)).toNat = 0 := by
      unfold Ieee.signed at h2
      split at h2 <;> omega
    rw [Nat.shiftLeft_eq] at h4
    have h5 : m = 0 := by
      rcases Nat.mul_eq_zero.1 h4 with h5 | h5
      · exact h5
      · exact absurd h5 (Nat.pos_iff_ne_zero.1 (Nat.two_pow_pos _))
    subst h5
    exact ⟨s, e, rfl⟩
  | infinity s => rw [hd] at h'; cases s <;> simp [Ieee.Datum.order] at h'
  | nan s t => rw [hd] at h'; simp [Ieee.Datum.order] at h'

theorem one_over {a : Nat} (h : FloatKind.f64.format.order a 0 = some .eq) : ∃ r, floatBits .quo .f64 4607182418800017408 a = some r := by
  obtain ⟨s, e, hd⟩ := zero_of_eq h
  have h1 : Ieee.double.read 4607182418800017408 = .number false 4503599627370496 (-52) := by decide
  refine ⟨Ieee.double.write (.infinity (false ^^ s)), ?_⟩
  show Ieee.double.div _ _ = _
  unfold Ieee.Format.div
  rw [h1, hd]
  rfl

set_option maxHeartbeats 400000 in
theorem sameFloat_any (a b : Nat) (w : World) (h : db a = db b) :
    Calls Try.prog 16 #[.float .f64 a, .float .f64 b] w (RetB true w) := by
  cases hb : db b with
  | none =>
    have h1 := db_none (h.trans hb) a
    have h2 := db_none hb b
    clear h hb
    go_enter Try.func16, Try.ntmps16
    go_wp2_with fail
    go_ret
    exact ⟨ret_bool rfl, Below.refl _ _⟩
  | some c =>
    obtain ⟨rfl, h1⟩ := db_some (h.trans hb)
    obtain ⟨rfl, _⟩ := db_some hb
    clear h hb
    cases h0 : (FloatKind.f64.format.order b 0 == some .eq)
    · go_enter Try.func16, Try.ntmps16
      go_wp2_with fail
      go_ret
      exact ⟨ret_bool rfl, Below.refl _ _⟩
    · obtain ⟨r, hr⟩ := one_over (by simpa using h0)
      have hq := fun w' => run_float_arith (P := Try.prog) w' .quo 30 .f64 _ _ _ hr
      clear hr
      go_enter Try.func16, Try.ntmps16
      go_wp2_with fail
      all_goals
        go_ret
        exact ⟨ret_bool (by simp), Below.refl _ _⟩

/-- d is the wide number x. -/
def IsD (d : Nat) (x : F) : Prop := db d = x
theorem IsD.out {d : Nat} {x : F} (h : IsD d x) : db d = x := h

theorem soft_wide {P : Program} {ops : Array Oper} {C : World → Prop} {S : FuncId → Array Value → Value → Prop} {Q : Act → Prop} {a : Act} {rest : List Oper} {dst : Option Tmp} {src tgt ty : TypeId} {X : Operand} {pos : String} {after : Array Edge}
    (hC : ∀ w n, C w → C (w.drewN n)) (hs : (P.underlying src).isSome = true) (hd : P.underlying tgt = some (.float .f64)) (hx : a.eval X = .float .f32 (f32 (a.eval X)))
    (h : ∀ r, IsD r (wid (fb (f32 (a.eval X)))) → wpSoft P ops C S Q rest (a.put dst (.float .f64 r))) :
    wpSoft P ops C S Q (⟨dst, .convert src tgt X, ty, pos, after, none⟩ :: rest) a := by
  refine soft_some (fun v => ∃ d, v = .float .f64 d ∧ IsD d (wid (fb (f32 (a.eval X))))) rfl (fun w hw => ?_) ?_
  · obtain ⟨d, n, h1, h2⟩ := run_wide (P := P) w (src := src) (dst := tgt) (b := f32 (a.eval X)) hs hd
    rw [← hx] at h1
    exact ⟨_, _, by simp [execOp, h1], hC w n hw, d, rfl, h2⟩
  · rintro v ⟨d, rfl, hd'⟩
    exact h d hd'

theorem wpList_wideG {P : Program} {ops : Array Oper} {Q : Exit → Act → World → Prop} {rest : List Oper} {a : Act} {w : World} {dst : Option Tmp} {src tgt ty : TypeId} {X : Operand} {pos : String} {after : Array Edge} {gd : Option (Nat × Bool)}
    (hgd : Region.wanted ⟨dst, .convert src tgt X, ty, pos, after, gd⟩ (yielded ops a.tmps) = true) (hs : (P.underlying src).isSome = true) (hd : P.underlying tgt = some (.float .f64)) (hx : a.eval X = .float .f32 (f32 (a.eval X)))
    (h : ∀ d n, IsD d (wid (fb (f32 (a.eval X)))) → wpList P ops Q rest (a.put dst (.float .f64 d)) (w.drewN n)) : wpList P ops Q (⟨dst, .convert src tgt X, ty, pos, after, gd⟩ :: rest) a w := by
  obtain ⟨d, n, h1, h2⟩ := run_wide (P := P) w (src := src) (dst := tgt) (b := f32 (a.eval X)) hs hd
  rw [← hx] at h1
  refine wpList_step fun K hK => ?_
  rw [if_pos hgd]
  unfold Oper.wp
  have : (execOp a.eval ⟨dst, .convert src tgt X, ty, pos, after, gd⟩).run P w = .ok (.value (.float .f64 d)) (w.drewN n) := by simp [execOp, h1]
  rw [this]
  exact hK _ _ (h d n h2)

def EqRel (w : World) (v : Value) (wr : World) : Prop := ∃ k : Nat, k ≤ 64 ∧ v = .int .i64 k ∧ Below w.heap.size w wr

theorem arrF_congr {f f' : Nat → Nat} (h : ∀ i, i < 64 → f i = f' i) : arrF f = arrF f' := by
  apply Array.ext_getElem?
  intro i
  by_cases hi : i < 64
  · rw [arrF_get _ hi, arrF_get _ hi, h i hi]
  · rw [Array.getElem?_eq_none (xs := arrF f) (by rw [arrF_size]; omega), Array.getElem?_eq_none (by rw [arrF_size]; omega)]

end Go.Proofs.Ytonmdkhfongmhaa
