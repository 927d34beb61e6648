/- The laws' comparisons of fields tell equal ones as equal; their copies are copies. -/
import Derived.Test.YtekemhibnokhcaaDoorSame
namespace Go.Proofs.YtekemhibnokhcaaDoor
open Go.RowKit

theorem order_self {d : Ieee.Datum} (h : d.isNaN = false) : d.order d = some .eq := by
  cases d with
  | number s m e => simp [Ieee.Datum.order]
  | infinity s => simp [Ieee.Datum.order]
  | nan s t => cases h

theorem db_none {a : Nat} (h : db a = none) (x : Nat) : FloatKind.f64.format.order a x = none := by
  have hn : (Ieee.double.read a).isNaN = true := by
    unfold db fbOf at h
    split at h
    · assumption
    · cases h
  show Ieee.double.order a x = none
  unfold Ieee.Format.order
  exact order_nan_l hn
theorem db_some {a b : Nat} (h : db a = some b) : a = b ∧ FloatKind.f64.format.order a a = some .eq := by
  unfold db fbOf at h
  split at h
  · cases h
  · rename_i hn
    cases h
    refine ⟨rfl, ?_⟩
    show Ieee.double.order a a = _
    unfold Ieee.Format.order
    exact order_self (by simpa using hn)

theorem zero_of_eq {a : Nat} (h : FloatKind.f64.format.order a 0 = some .eq) : ∃ s e, Ieee.double.read a = .number s 0 e := by
  have h' : (Ieee.double.read a).order (Ieee.double.read 0) = some .eq := h
  have h0 : Ieee.double.read 0 = .number false 0 (-1074) := by decide
  rw [h0] at h'
  cases hd : Ieee.double.read a with
  | number s m e =>
    rw [hd] at h'
    simp only [Ieee.Datum.order, Option.some.injEq] at h'
    have h2 := Int.compare_eq_eq.1 h'
    have h3 : Ieee.signed false 0 (-1074 - min e (-1074)).toNat = 0 := by simp [Ieee.signed]
    rw [h3] at h2
    have h4 : m <<< (e - min e (-1074)).toNat = 0 := by
      unfold Ieee.signed at h2
      split at h2 <;> omega
    rw [Nat.shiftLeft_eq] at h4
    have h5 : m = 0 := by
      rcases Nat.mul_eq_zero.1 h4 with h5 | h5
      · exact h5
      · exact absurd h5 (Nat.pos_iff_ne_zero.1 (Nat.two_pow_pos _))
    subst h5
    exact ⟨s, e, rfl⟩
  | infinity s => rw [hd] at h'; cases s <;> simp [Ieee.Datum.order] at h'
  | nan s t => rw [hd] at h'; simp [Ieee.Datum.order] at h'

theorem one_over {a : Nat} (h : FloatKind.f64.format.order a 0 = some .eq) : ∃ r, floatBits .quo .f64 4607182418800017408 a = some r := by
  obtain ⟨s, e, hd⟩ := zero_of_eq h
  have h1 : Ieee.double.read 4607182418800017408 = .number false 4503599627370496 (-52) := by decide
  refine ⟨Ieee.double.write (.infinity (false ^^ s)), ?_⟩
  show Ieee.double.div _ _ = _
  unfold Ieee.Format.div
  rw [h1, hd]
  rfl

set_option maxHeartbeats 400000 in
theorem sameFloat_any (a b : Nat) (w : World) (h : db a = db b) :
    Calls Tryd.prog 39 #[.float .f64 a, .float .f64 b] w (RetB true w) := by
  cases hb : db b with
  | none =>
    have h1 := db_none (h.trans hb) a
    have h2 := db_none hb b
    clear h hb
    go_enter Tryd.func39, Tryd.ntmps39
    go_wp2_with fail
    go_ret
    exact ⟨ret_bool rfl, Below.refl _ _⟩
  | some c =>
    obtain ⟨rfl, h1⟩ := db_some (h.trans hb)
    obtain ⟨rfl, _⟩ := db_some hb
    clear h hb
    cases h0 : (FloatKind.f64.format.order b 0 == some .eq)
    · go_enter Tryd.func39, Tryd.ntmps39
      go_wp2_with fail
      go_ret
      exact ⟨ret_bool rfl, Below.refl _ _⟩
    · obtain ⟨r, hr⟩ := one_over (by simpa using h0)
      have hq := fun w' => run_float_arith (P := Tryd.prog) w' .quo 74 .f64 _ _ _ hr
      clear hr
      go_enter Tryd.func39, Tryd.ntmps39
      go_wp2_with fail
      all_goals
        go_ret
        exact ⟨ret_bool (by simp), Below.refl _ _⟩

/-- d is the wide number x. -/
def IsD (d : Nat) (x : F) : Prop := db d = x
theorem IsD.out {d : Nat} {x : F} (h : IsD d x) : db d = x := h

theorem soft_wide {P : Program} {ops : Array Oper} {C : World → Prop} {S : FuncId → Array Value → Value → Prop} {Q : Act → Prop} {a : Act} {rest : List Oper} {dst : Option Tmp} {src tgt ty : TypeId} {X : Operand} {pos : String} {after : Array Edge}
    (hC : ∀ w n, C w → C (w.drewN n)) (hs : (P.underlying src).isSome = true) (hd : P.underlying tgt = some (.float .f64)) (hx : a.eval X = .float .f32 (f32 (a.eval X)))
    (h : ∀ r, IsD r (wid (fb (f32 (a.eval X)))) → wpSoft P ops C S Q rest (a.put dst (.float .f64 r))) :
    wpSoft P ops C S Q (⟨dst, .convert src tgt X, ty, pos, after, none⟩ :: rest) a := by
  refine soft_some (fun v => ∃ d, v = .float .f64 d ∧ IsD d (wid (fb (f32 (a.eval X))))) rfl (fun w hw => ?_) ?_
  · obtain ⟨d, n, h1, h2⟩ := run_wide (P := P) w (src := src) (dst := tgt) (b := f32 (a.eval X)) hs hd
    rw [← hx] at h1
    exact ⟨_, _, by simp [execOp, h1], hC w n hw, d, rfl, h2⟩
  · rintro v ⟨d, rfl, hd'⟩
    exact h d hd'

theorem wpList_wideG {P : Program} {ops : Array Oper} {Q : Exit → Act → World → Prop} {rest : List Oper} {a : Act} {w : World} {dst : Option Tmp} {src tgt ty : TypeId} {X : Operand} {pos : String} {after : Array Edge} {gd : Option (Nat × Bool)}
    (hgd : Region.wanted ⟨dst, .convert src tgt X, ty, pos, after, gd⟩ (yielded ops a.tmps) = true) (hs : (P.underlying src).isSome = true) (hd : P.underlying tgt = some (.float .f64)) (hx : a.eval X = .float .f32 (f32 (a.eval X)))
    (h : ∀ d n, IsD d (wid (fb (f32 (a.eval X)))) → wpList P ops Q rest (a.put dst (.float .f64 d)) (w.drewN n)) : wpList P ops Q (⟨dst, .convert src tgt X, ty, pos, after, gd⟩ :: rest) a w := by
  obtain ⟨d, n, h1, h2⟩ := run_wide (P := P) w (src := src) (dst := tgt) (b := f32 (a.eval X)) hs hd
  rw [← hx] at h1
  refine wpList_step fun K hK => ?_
  rw [if_pos hgd]
  unfold Oper.wp
  have : (execOp a.eval ⟨dst, .convert src tgt X, ty, pos, after, gd⟩).run P w = .ok (.value (.float .f64 d)) (w.drewN n) := by simp [execOp, h1]
  rw [this]
  exact hK _ _ (h d n h2)

def EqRel (w : World) (v : Value) (wr : World) : Prop := ∃ k : Nat, k ≤ 64 ∧ v = .int .i64 k ∧ Below w.heap.size w wr

theorem arrF_congr {f f' : Nat → Nat} (h : ∀ i, i < 64 → f i = f' i) : arrF f = arrF f' := by
  apply Array.ext_getElem?
  intro i
  by_cases hi : i < 64
  · rw [arrF_get _ hi, arrF_get _ hi, h i hi]
  · rw [Array.getElem?_eq_none (xs := arrF f) (by rw [arrF_size]; omega), Array.getElem?_eq_none (by rw [arrF_size]; omega)]

def CopyRel (f : Nat → Nat) (w1 : World) (B : Nat) (v : Value) (wr : World) : Prop :=
  ∃ k : Nat, k ≤ 64 ∧ v = .int .i64 k ∧ Blk wr B (arrF fun i => if i < k then f i else 0) 36 ∧ w1.grownBy wr (some B)

set_option maxRecDepth 100000 in
set_option maxHeartbeats 400000 in
theorem toField_any (f : Nat → Nat) (w : World) :
    Calls Tryd.prog 23 #[.agg (arrF f)] w fun e w' => e = .returned (.agg (arrF f)) ∧ Below w.heap.size w w' := by
  go_enter Tryd.func23, Tryd.ntmps23
  go_wp2_with (with_reducible refine wpList_box rfl ?_)
  intro A wA hA1 hA2 hA3 hA4
  go_wp2_with (first | (with_reducible refine wpList_new newF ?_) | (with_reducible refine wpList_zero (zeroF _) ?_) | (with_reducible refine wpList_new newG ?_) | (with_reducible refine wpList_zero (zeroG _) ?_))
  intro R wR hR1 hR2 hR3 hR4
  go_wp2_with (first | (with_reducible refine wpList_new newF ?_) | (with_reducible refine wpList_zero (zeroF _) ?_) | (with_reducible refine wpList_new newG ?_) | (with_reducible refine wpList_zero (zeroG _) ?_))
  intro B wB hB1 hB2 hB3 hB4
  have hAB := Lib.hid ((hA3.later hR4).later hB4)
  have hRB := Lib.hid (hR3.later hB4)
  have hBel := (hA4.trans (hR4.mono hA4.size)).trans (hB4.mono (Nat.le_trans hA4.size hR4.size))
  have HB := Lib.hid hBel
  have HB3 := Lib.hid hB3
  have hRn : R < B := by omega
  have hAn : A < B := by omega
  have hwB : w.heap.size ≤ B := by have := hA4.size; omega
  clear hA3 hR3 hA4 hR4 hB4 hBel hB3
  go_wp2_with fail
  go_loopw [4] (fun v wr => CopyRel f wB B v wr) (fun v _ => 64 - (intOf v).toNat)
  case atStart => exact ⟨0, by omega, rfl, HB3.out, grown_refl _ _⟩
  case round =>
    obtain ⟨k, hk, rfl, hb, hgr⟩ := hrel
    have HGR := Lib.hid hgr
    by_cases hlt : k < 64
    · have c1 := (hAB.out.grown hgr (by omega)).at (arrF_get f hlt)
      have k1 : (k : Int) < 64 := by omega
      have HBB := Lib.hid hb
      clear hgr hb
      go_wp2_with ((with_reducible refine wpList_setF (k := k) (r := f k) HBB.out hlt ?_ ?_ ?_); rfl; rfl)
      intro w3 h31 h32 h33
      have H33 := Lib.hid (grown_trans HGR.out h33)
      have H32 : Hid (Blk w3 B (arrF fun i => if i < k + 1 then f i else 0) 36) := by
        have e : arrF (upd (fun i => if i < k then f i else 0) k (f k)) = arrF fun i => if i < k + 1 then f i else 0 := arrF_congr fun i _ => by
          unfold upd
          by_cases e : i = k
          · subst e; simp
          · rw [if_neg e]
            show (if i < k then f i else 0) = _
            by_cases e2 : i < k
            · rw [if_pos e2, if_pos (by omega)]
            · rw [if_neg e2, if_neg (by omega)]
        rw [e] at h32; exact h32
      clear h32 h33
      go_wp2_with fail
      go_roundw
      case rel => exact ⟨k + 1, by omega, by go_num, H32.out, H33.out⟩
      case measure => simp [intOf]; omega
    · have hk' : k = 64 := by omega
      have HF : Hid (Blk wr B (arrF f) 36) := by
        subst hk'
        rw [arrF_congr (f := fun i => if i < 64 then f i else 0) (f' := f) (fun i hi => if_pos hi)] at hb
        exact hb
      have hRr := Lib.hid (hRB.out.grown hgr (by omega))
      clear hb hgr hk'
      go_wp2_with (first | ((with_reducible refine wpList_getF HF.out ?_ ?_); rfl) | ((with_reducible refine wpList_putF (f := f) hRr.out ?_ ?_ ?_); rfl; rfl))
      intro w3 h31 h32 h33
      go_wp2_with fail
      first
        | refine ret_cell1 rfl rfl (loadF h32) rfl ⟨rfl, ?_⟩
      exact below_grown (below_grown HB.out HGR.out HB.out.size hwB) h33 (by have := HB.out.size; have := HGR.out.size; omega) (by omega)
end Go.Proofs.YtekemhibnokhcaaDoor
