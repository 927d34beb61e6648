/- The laws' comparisons of fields tell equal ones as equal; their copies are copies. -/
import Derived.Test.YtbhnnglpakdigaaSame
namespace Go.Proofs.Ytbhnnglpakdigaa
open Go.RowKit

theorem order_self {d : Ieee.Datum} (h : d.isNaN = false) : d.order d = some .eq := by
  cases d with
  | number s m e => simp [Ieee.Datum.order]
  | infinity s => simp [Ieee.Datum.order]
  | nan s t => cases h

theorem db_none {a : Nat} (h : db a = none) (x : Nat) : FloatKind.f64.format.order a x = none := by
  have hn : (Ieee.double.read a).isNaN = true := by
    unfold db fbOf at h
    split at h
    · assumption
    · cases h
  show Ieee.double.order a x = none
  unfold Ieee.Format.order
  exact order_nan_l hn
theorem db_some {a b : Nat} (h : db a = some b) : a = b ∧ FloatKind.f64.format.order a a = some .eq := by
  unfold db fbOf at h
  split at h
  · cases h
  · rename_i hn
    cases h
    refine ⟨rfl, ?_⟩
    show Ieee.double.order a a = _
    unfold Ieee.Format.order
    exact order_self (by simpa using hn)

theorem zero_of_eq {a : Nat} (h : FloatKind.f64.format.order a 0 = some .eq) : ∃ s e, Ieee.double.read a = .number s 0 e := by
  have h' : (Ieee.double.read a).order (Ieee.double.read 0) = some .eq := h
  have h0 : Ieee.double.read 0 = .number false 0 (-1074) := by decide
  rw [h0] at h'
  cases hd : Ieee.double.read a with
  | number s m e =>
    rw [hd] at h'
    simp only [Ieee.Datum.order, Option.some.injEq] at h'
    have h2 := Int.compare_eq_eq.1 h'
    have h3 : Ieee.signed false 0 (-1074 - min e (-1074)).toNat = 0 := by simp [Ieee.signed]
    rw [h3] at h2
    have h4 : m <<< (e - min e (-1074)).toNat = 0 := by
      unfold Ieee.signed at h2
      split at h2 <;> omega
    rw [Nat.shiftLeft_eq] at h4
    have h5 : m = 0 := by
      rcases Nat.mul_eq_zero.1 h4 with h5 | h5
      · exact h5
      · exact absurd h5 (Nat.pos_iff_ne_zero.1 (Nat.two_pow_pos _))
    subst h5
    exact ⟨s, e, rfl⟩
  | infinity s => rw [hd] at h'; cases s <;> simp [Ieee.Datum.order] at h'
  | nan s t => rw [hd] at h'; simp [Ieee.Datum.order] at h'

theorem one_over {a : Nat} (h : FloatKind.f64.format.order a 0 = some .eq) : ∃ r, floatBits .quo .f64 4607182418800017408 a = some r := by
  obtain ⟨s, e, hd⟩ := zero_of_eq h
  have h1 : Ieee.double.read 4607182418800017408 = .number false 4503599627370496 (-52) := by decide
  refine ⟨Ieee.double.write (.infinity (false ^^ s)), ?_⟩
  show Ieee.double.div _ _ = _
  unfold Ieee.Format.div
  rw [h1, hd]
  rfl

set_option maxHeartbeats 400000 in
theorem sameFloat_any (a b : Nat) (w : World) (h : db a = db b) :
    Calls Try.prog 20 #[.float .f64 a, .float .f64 b] w (RetB true w) := by
  cases hb : db b with
  | none =>
    have h1 := db_none (h.trans hb) a
    have h2 := db_none hb b
    clear h hb
    go_enter Try.func20, Try.ntmps20
    go_wp2_with fail
    go_ret
    exact ⟨ret_bool rfl, Below.refl _ _⟩
  | some c =>
    obtain ⟨rfl, h1⟩ := db_some (h.trans hb)
    obtain ⟨rfl, _⟩ := db_some hb
    clear h hb
    cases h0 : (FloatKind.f64.format.order b 0 == some .eq)
    · go_enter Try.func20, Try.ntmps20
      go_wp2_with fail
      go_ret
      exact ⟨ret_bool rfl, Below.refl _ _⟩
    · obtain ⟨r, hr⟩ := one_over (by simpa using h0)
      have hq := fun w' => run_float_arith (P := Try.prog) w' .quo 40 .f64 _ _ _ hr
      clear hr
      go_enter Try.func20, Try.ntmps20
      go_wp2_with fail
      all_goals
        go_ret
        exact ⟨ret_bool (by simp), Below.refl _ _⟩

/-- d is the wide number x. -/
def IsD (d : Nat) (x : F) : Prop := db d = x
theorem IsD.out {d : Nat} {x : F} (h : IsD d x) : db d = x := h

theorem soft_wide {P : Program} {ops : Array Oper} {C : World → Prop} {S : FuncId → Array Value → Value → Prop} {Q : Act → Prop} {a : Act} {rest : List Oper} {dst : Option Tmp} {src tgt ty : TypeId} {X : Operand} {pos : String} {after : Array Edge}
    (hC : ∀ w n, C w → C (w.drewN n)) (hs : (P.underlying src).isSome = true) (hd : P.underlying tgt = some (.float .f64)) (hx : a.eval X = .float .f32 (f32 (a.eval X)))
    (h : ∀ r, IsD r (wid (fb (f32 (a.eval X)))) → wpSoft P ops C S Q rest (a.put dst (.float .f64 r))) :
    wpSoft P ops C S Q (⟨dst, .convert src tgt X, ty, pos, after, none⟩ :: rest) a := by
  refine soft_some (fun v => ∃ d, v = .float .f64 d ∧ IsD d (wid (fb (f32 (a.eval X))))) rfl (fun w hw => ?_) ?_
  · obtain ⟨d, n, h1, h2⟩ := run_wide (P := P) w (src := src) (dst := tgt) (b := f32 (a.eval X)) hs hd
    rw [← hx] at h1
    exact ⟨_, _, by simp [execOp, h1], hC w n hw, d, rfl, h2⟩
  · rintro v ⟨d, rfl, hd'⟩
    exact h d hd'

theorem wpList_wideG {P : Program} {ops : Array Oper} {Q : Exit → Act → World → Prop} {rest : List Oper} {a : Act} {w : World} {dst : Option Tmp} {src tgt ty : TypeId} {X : Operand} {pos : String} {after : Array Edge} {gd : Option (Nat × Bool)}
    (hgd : Region.wanted ⟨dst, .convert src tgt X, ty, pos, after, gd⟩ (yielded ops a.tmps) = true) (hs : (P.underlying src).isSome = true) (hd : P.underlying tgt = some (.float .f64)) (hx : a.eval X = .float .f32 (f32 (a.eval X)))
    (h : ∀ d n, IsD d (wid (fb (f32 (a.eval X)))) → wpList P ops Q rest (a.put dst (.float .f64 d)) (w.drewN n)) : wpList P ops Q (⟨dst, .convert src tgt X, ty, pos, after, gd⟩ :: rest) a w := by
  obtain ⟨d, n, h1, h2⟩ := run_wide (P := P) w (src := src) (dst := tgt) (b := f32 (a.eval X)) hs hd
  rw [← hx] at h1
  refine wpList_step fun K hK => ?_
  rw [if_pos hgd]
  unfold Oper.wp
  have : (execOp a.eval ⟨dst, .convert src tgt X, ty, pos, after, gd⟩).run P w = .ok (.value (.float .f64 d)) (w.drewN n) := by simp [execOp, h1]
  rw [this]
  exact hK _ _ (h d n h2)

def EqRel (w : World) (v : Value) (wr : World) : Prop := ∃ k : Nat, k ≤ 64 ∧ v = .int .i64 k ∧ Below w.heap.size w wr

set_option maxRecDepth 100000 in
set_option maxHeartbeats 400000 in
theorem eqField_any (f f' : Nat → Nat) (w : World) (h : fm f = fm f') :
    Calls Try.prog 40 #[.agg (arrF f), .agg (arrF f')] w (RetB true w) := by
  have HH := Lib.hid h
  clear h
  go_enter Try.func40, Try.ntmps40
  go_wp2_with (with_reducible refine wpList_box rfl ?_)
  intro A wA hA1 hA2 hA3 hA4
  go_wp2_with (with_reducible refine wpList_box rfl ?_)
  intro B wB hB1 hB2 hB3 hB4
  have hA3' := hA3.later hB4
  have HB := Lib.hid (hA4.trans (hB4.mono hA4.size))
  clear hA3 hA4 hB4
  go_wp2_with fail
  go_loopw [5] (fun v wr => EqRel wB v wr) (fun v _ => 64 - (intOf v).toNat)
  case atStart => exact ⟨0, by omega, rfl, Below.refl _ _⟩
  case round =>
    obtain ⟨k, hk, rfl, hBr⟩ := hrel
    have HBr := Lib.hid hBr
    by_cases hlt : k < 64
    · have c1 := fun x => ext_cell wr x ((hA3'.later hBr).at (arrF_get f hlt))
      have c2 := fun x => ext_cell wr x ((hB3.later hBr).at (arrF_get f' hlt))
      have k1 : (k : Int) < 64 := by omega
      have hdd : Hid (wid (fb (f k)) = wid (fb (f' k))) := by
        have := congrFun HH.out k
        rw [fm_of hlt, fm_of hlt] at this
        show wid (fb (f k)) = wid (fb (f' k))
        rw [this]
      clear hBr hA3' hB3
      go_wp2_with fail
      refine wp_soft (SV (.bool true)) (by kernel_rfl) (by kernel_rfl) ?_
      repeat (first | ((with_reducible refine soft_wide ?_ ?_ ?_ ?_ ?_); (exact fun _ n h => h.drewN n); (exact rfl); (exact Try.underlying40); (exact rfl); intro r hr) | (refine soft_step (fun K hK => ?_); go_simp; (try go_bits); refine hK _ ?_; clear hK K) | (refine soft_step (fun K hK => ?_); go_simp; refine ⟨_, _, ⟨rfl, rfl⟩, fun x => (sameFloat_any _ _ _ ?_).mono ?_, ?_⟩; (rename_i d1 h1; exact h1.out.trans (hdd.out.trans hr.out.symm)); (rintro e w1 ⟨he, hb⟩; exact ⟨_, he, rfl, hb⟩); rintro v rfl; refine hK _ ?_; clear hK K))
      refine soft_nil ?_
      rintro w5 hw5
      have HB5 := Lib.hid (HBr.out.trans (hw5.below.mono HBr.out.size))
      clear hw5
      go_wp2_with fail
      go_roundw
      case rel => exact ⟨k + 1, by omega, by go_num, HB5.out⟩
      case measure => simp [intOf]; omega
    · go_wp2
      go_ret
      exact ⟨rfl, HB.out.trans (HBr.out.mono HB.out.size)⟩

theorem arrF_congr {f f' : Nat → Nat} (h : ∀ i, i < 64 → f i = f' i) : arrF f = arrF f' := by
  apply Array.ext_getElem?
  intro i
  by_cases hi : i < 64
  · rw [arrF_get _ hi, arrF_get _ hi, h i hi]
  · rw [Array.getElem?_eq_none (xs := arrF f) (by rw [arrF_size]; omega), Array.getElem?_eq_none (by rw [arrF_size]; omega)]

end Go.Proofs.Ytbhnnglpakdigaa
