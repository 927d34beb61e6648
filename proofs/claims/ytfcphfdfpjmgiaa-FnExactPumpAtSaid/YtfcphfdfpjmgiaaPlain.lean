/- Plain numbers. -/
import Derived.Test.YtfcphfdfpjmgiaaSize
namespace Go.Proofs.Ytfcphfdfpjmgiaa
open Go.RowKit

/-- A plain number is finite. -/
theorem plain_num {x : F} (h : plain x = true) : ∃ b s m e, x = some b ∧ Ieee.single.read b = .number s m e := by
  cases x with
  | none => cases h
  | some b =>
    unfold plain at h
    simp only [Bool.and_eq_true] at h
    obtain ⟨h1, h2⟩ := h
    cases hd : Ieee.single.read b with
    | number s m e => exact ⟨b, s, m, e, rfl, hd⟩
    | infinity s =>
      exfalso
      have e1 : Ieee.single.read 3380609024 = .number true 8388608 (-3) := by decide
      have e2 : Ieee.single.read 1233125376 = .number false 8388608 (-3) := by decide
      have o1 : ford (some b) (some 3380609024) = some (if s then .lt else .gt) := by
        show (Ieee.single.read b).order (Ieee.single.read 3380609024) = _
        rw [hd, e1]; rfl
      have o2 : ford (some b) (some 1233125376) = some (if s then .lt else .gt) := by
        show (Ieee.single.read b).order (Ieee.single.read 1233125376) = _
        rw [hd, e2]; rfl
      unfold fge fgt feq at h1
      unfold fle flt feq at h2
      rw [o1] at h1
      rw [o2] at h2
      cases s
      · simp at h2
      · simp at h1
    | nan s t =>
      exfalso
      have o1 : ford (some b) (some 3380609024) = none := by
        show (Ieee.single.read b).order _ = _
        rw [hd]; rfl
      unfold fge fgt feq at h1
      rw [o1] at h1
      simp at h1

theorem fsub_plain {x y : F} (hx : plain x = true) (hy : plain y = true) : ∃ d, fsub x y = some d ∧ d < 4294967296 ∧ d % 2147483648 ≤ 2139095040 := by
  obtain ⟨a, s, m, e, rfl, ha⟩ := plain_num hx
  obtain ⟨b, t, n, f, rfl, hb⟩ := plain_num hy
  have h : ∃ d, fsub (some a) (some b) = some d := by
    show ∃ d, ((Ieee.single.read a).sum (Ieee.single.read b).opposite).map Ieee.single.write = some d
    rw [ha, hb]
    exact ⟨_, rfl⟩
  obtain ⟨d, hd⟩ := h
  refine ⟨d, hd, fsub_fits _ _ d hd, ?_⟩
  have hn : fb d = some d := fb_sub hd
  unfold fb fbOf at hn
  split at hn
  · cases hn
  · rename_i hnn
    rcases Nat.lt_or_ge 2139095040 (d % 2147483648) with h1 | h1
    · exfalso
      apply hnn
      have hbi : Ieee.single.binade = 8388608 := rfl
      have hi : Ieee.single.infRung = 2139095040 := rfl
      have hs : Ieee.single.signWeight = 2147483648 := rfl
      unfold Ieee.Format.read
      simp only [hbi, hi, hs]
      rw [if_neg (by omega), if_neg (by omega), if_neg (by omega)]
      rfl
    · exact h1

theorem head_plain {m : M} (h : okI m = true) {c : Nat} (hc : c < 64) (hh : hasB m.wide m.high c = true) : plain (m.h c) = true := by
  unfold okI fieldsI at h
  simp only [Bool.and_eq_true] at h
  have h3 := h.1.2.2
  unfold fieldTo at h3
  have := List.all_eq_true.1 h3 c (List.mem_range.2 hc)
  rw [hh] at this
  exact this

theorem signed_cmp (a b : Int) : compare b a = (compare a b).swap := by
  rcases Int.lt_trichotomy a b with h | h | h
  · rw [Int.compare_eq_lt.2 h, Int.compare_eq_gt.2 h]; rfl
  · subst h; simp
  · rw [Int.compare_eq_gt.2 h, Int.compare_eq_lt.2 h]; rfl
theorem order_swap (d e : Ieee.Datum) : e.order d = (d.order e).map Ordering.swap := by
  cases d with
  | nan s t => cases e <;> rfl
  | infinity s => cases e with
    | nan => rfl
    | infinity t => cases s <;> cases t <;> rfl
    | number t n j => cases s <;> rfl
  | number s m i => cases e with
    | nan => rfl
    | infinity t => cases t <;> rfl
    | number t n j =>
      simp only [Ieee.Datum.order, Option.map_some]
      rw [Int.min_comm j i, signed_cmp]
theorem ford_swap (x y : F) : ford y x = (ford x y).map Ordering.swap := by
  cases x with
  | none => cases y <;> rfl
  | some a => cases y with
    | none => rfl
    | some b => exact order_swap _ _
end Go.Proofs.Ytfcphfdfpjmgiaa
