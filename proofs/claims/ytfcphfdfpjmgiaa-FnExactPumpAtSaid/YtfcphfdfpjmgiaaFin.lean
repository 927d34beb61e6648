/- Every flow of a valid ground is finite. -/
import Derived.Test.YtfcphfdfpjmgiaaLe
import Derived.Test.YtfcphfdfpjmgiaaPlain
namespace Go.Proofs.Ytfcphfdfpjmgiaa
open Go.RowKit

theorem pow_le_of {a b : Nat} (h : 2 ^ a ≤ 2 ^ b) : a ≤ b := by
  rcases Nat.lt_or_ge b a with h1 | h1
  · have := Nat.pow_lt_pow_right (a := 2) (by decide) h1; omega
  · exact h1

/-- Whether it is up to 2^20 in size: what the orders say. -/
theorem plain_le {x : F} (h : plain x = true) : Le x 20 := by
  obtain ⟨b, s, m, e, rfl, hd⟩ := plain_num h
  have he : -149 ≤ e := by
    rcases read_single b with ⟨s', m', e', h1, h2, h3, h4⟩ | ⟨s', h1⟩ | ⟨s', t', h1⟩
    · rw [hd] at h1; cases h1; exact h3
    · rw [hd] at h1; cases h1
    · rw [hd] at h1; cases h1
  refine ⟨b, s, m, e, rfl, hd, he, ?_⟩
  by_cases h0 : m = 0
  · exact .inl h0
  · refine .inr ?_
    unfold plain at h
    simp only [Bool.and_eq_true] at h
    obtain ⟨h1, h2⟩ := h
    have e1 : Ieee.single.read 3380609024 = .number true 8388608 (-3) := by decide
    have e2 : Ieee.single.read 1233125376 = .number false 8388608 (-3) := by decide
    have o1 : ford (some b) (some 3380609024) = some (compare (Ieee.signed s m (e - min e (-3)).toNat) (Ieee.signed true 8388608 (-3 - min e (-3)).toNat)) := by
      show (Ieee.single.read b).order (Ieee.single.read 3380609024) = _
      rw [hd, e1]; rfl
    have o2 : ford (some b) (some 1233125376) = some (compare (Ieee.signed s m (e - min e (-3)).toNat) (Ieee.signed false 8388608 (-3 - min e (-3)).toNat)) := by
      show (Ieee.single.read b).order (Ieee.single.read 1233125376) = _
      rw [hd, e2]; rfl
    generalize hB : min e (-3) = B at o1 o2
    have hN : (8388608 : Nat) <<< (-3 - B).toNat = 2 ^ (23 + (-3 - B).toNat) := by rw [Nat.shiftLeft_eq, Nat.pow_add]
    have hM : 2 ^ (m.log2 + (e - B).toNat) ≤ m <<< (e - B).toNat := by
      rw [Nat.pow_add, Nat.shiftLeft_eq]; exact Nat.mul_le_mul_right _ (Nat.log2_self_le h0)
    have key : m <<< (e - B).toNat ≤ (8388608 : Nat) <<< (-3 - B).toNat := by
      unfold fge fgt feq at h1
      unfold fle flt feq at h2
      rw [o1] at h1
      rw [o2] at h2
      unfold Ieee.signed at h1 h2
      generalize m <<< (e - B).toNat = P at *
      generalize (8388608 : Nat) <<< (-3 - B).toNat = Q at *
      cases s
      · rcases Int.lt_trichotomy (P : Int) (Q : Int) with h | h | h
        · omega
        · omega
        · rw [if_neg (by simp), if_neg (by simp), Int.compare_eq_gt.2 h] at h2
          simp at h2
      · rcases Int.lt_trichotomy (-(P : Int)) (-(Q : Int)) with h | h | h
        · rw [if_pos rfl, if_pos rfl, Int.compare_eq_lt.2 h] at h1
          simp at h1
        · omega
        · omega
    rw [hN] at key
    have := pow_le_of (Nat.le_trans hM key)
    unfold lg
    omega

theorem pos_of {x : F} (h : fgt x (some 0) = true) {b : Nat} {s : Bool} {m : Nat} {e : Int} (hx : x = some b) (hd : Ieee.single.read b = .number s m e) (he : -149 ≤ e) : s = false ∧ m ≠ 0 := by
  subst hx
  have ho : ford (some b) (some 0) = some (compare (Ieee.signed s m (e + 149).toNat) 0) := by
    show (Ieee.single.read b).order (Ieee.single.read 0) = _
    rw [hd, read0]
    simp only [Ieee.Datum.order]
    have e1 : min e (-149) = -149 := by omega
    rw [e1, show (-149 - -149 : Int) = 0 by omega, show e - -149 = e + 149 by omega]
    rfl
  unfold fgt at h
  rw [ho] at h
  have hgt : compare (Ieee.signed s m (e + 149).toNat) 0 = .gt := by simpa using h
  have h2 := Int.compare_eq_gt.1 hgt
  unfold Ieee.signed at h2
  constructor
  · cases s
    · rfl
    · rw [if_pos rfl] at h2
      generalize m <<< (e + 149).toNat = P at h2
      omega
  · rintro rfl
    rw [Nat.zero_shiftLeft] at h2
    cases s <;> simp at h2

theorem le_zero (k : Int) : Le (some 0) k := ⟨0, false, 0, -149, rfl, read0, by omega, .inl rfl⟩

theorem joint_le {a b : F} (ha : plain a = true) (hb : plain b = true) : Le (joint a b) 26 := by
  unfold joint
  split
  · rename_i h
    simp only [Bool.and_eq_true] at h
    obtain ⟨h1, h2⟩ := h
    have la := plain_le ha
    have lb := plain_le hb
    obtain ⟨p, s, m, e, rfl, hp, hpe, hpm⟩ := la
    obtain ⟨q, t, n, f, rfl, hq, hqf, hqn⟩ := lb
    obtain ⟨rfl, hm0⟩ := pos_of h1 rfl hp hpe
    obtain ⟨rfl, hn0⟩ := pos_of h2 rfl hq hqf
    have hln := hqn.resolve_left hn0
    have hlow : -149 ≤ lg n f := by unfold lg; omega
    have A : Le (some p) 20 := ⟨p, false, m, e, rfl, hp, hpe, hpm⟩
    have B : Le (some q) (lg n f) := ⟨q, false, n, f, rfl, hq, hqf, .inr (Int.le_refl _)⟩
    have C : Le (fmul (some p) (some q)) (22 + lg n f) := (fmul_le A B (by omega)).mono (by omega)
    have e2 : Ieee.single.read 1073741824 = .number false 8388608 (-22) := by decide
    have D : Le (some 1073741824) 1 := ⟨_, false, _, _, rfl, e2, by omega, .inr (by decide)⟩
    have E : Le (fmul (some 1073741824) (fmul (some p) (some q))) (25 + lg n f) := (fmul_le D C (by omega)).mono (by omega)
    have G : Ge (fadd (some p) (some q)) (lg n f) := fadd_ge (i := 20) (j := lg n f) A ⟨p, m, e, rfl, hp⟩ ⟨q, n, f, rfl, hq, hqf, hn0, Int.le_refl _⟩ (B.mono hln) (by omega) (Int.le_refl _) hlow
    exact (fdiv_le E G (by omega)).mono (by omega)
  · exact le_zero _

theorem fin_le {x : F} {k : Int} (h : Le x k) : fin x = true := by
  obtain ⟨b, s, m, e, rfl, hd, he, _⟩ := h
  have hz : fsub (some b) (some b) = some 0 := by
    show ((Ieee.single.read b).sum (Ieee.single.read b).opposite).map Ieee.single.write = _
    rw [hd]
    have ht : Ieee.signed s m (e - min e e).toNat + Ieee.signed (!s) m (e - min e e).toNat = 0 := by
      unfold Ieee.signed; generalize m <<< (e - min e e).toNat = M; cases s <;> simp <;> omega
    simp only [Ieee.Datum.opposite, Ieee.Datum.sum, ht, Option.map_some]
    have : (s && !s) = false := by cases s <;> rfl
    rw [if_pos trivial, this]
    show some (Ieee.single.nearest false 0 _) = _
    unfold Ieee.Format.nearest
    rw [if_pos (by rfl)]; rfl
  unfold fin
  rw [hz]; decide

theorem conduct_plain {m : M} (h : okI m = true) {c : Nat} (hc : c < 64) (hh : hasB m.wide m.high c = true) : plain (m.c c) = true := by
  unfold okI fieldsI at h
  simp only [Bool.and_eq_true] at h
  have h3 := h.1.2.1.1
  unfold fieldTo at h3
  have := List.all_eq_true.1 h3 c (List.mem_range.2 hc)
  rw [hh] at this
  have h4 : amount (m.c c) = true := this
  unfold amount at h4
  simp only [Bool.and_eq_true] at h4
  exact h4.1

/-- The cell beside a cell is a cell. -/
theorem beside_has {W H : Int} {k s n : Nat} (hk : k < 64) (hW : W ≤ 8) (hH : H ≤ 8) (h : beside W H k s = n) : n < 64 ∧ hasB W H n = true := by
  unfold beside besideXY at h
  simp only [] at h
  unfold hasB
  simp only [Bool.and_eq_true, decide_eq_true_eq]
  split at h <;> split at h <;> first | omega | (split at h <;> first | omega | (split at h <;> omega))

theorem flow_fin {m : M} (h : okI m = true) {k s : Nat} (hk : k < 64) (hh : hasB m.wide m.high k = true) : fin (flow m k s) = true := by
  have hsz := sized_of h
  unfold flow
  split
  · exact fin_le (le_zero 0)
  · rename_i hn
    obtain ⟨n, hn2⟩ : ∃ n : Nat, beside m.wide m.high k s = n := ⟨(beside m.wide m.high k s).toNat, by omega⟩
    obtain ⟨hnl, hnh⟩ := beside_has hk hsz.1.2 hsz.2.2 hn2
    rw [hn2, Int.toNat_natCast]
    have J := joint_le (conduct_plain h hk hh) (conduct_plain h hnl hnh)
    have D : Le (fsub (m.h k) (m.h n)) 22 := (fsub_le (k := 20) (plain_le (head_plain h hk hh)) (plain_le (head_plain h hnl hnh)) (Int.le_refl _) (Int.le_refl _) (by omega)).mono (by omega)
    exact fin_le (fmul_le J D (by omega))
end Go.Proofs.Ytfcphfdfpjmgiaa
