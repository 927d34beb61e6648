/- The way of the water: the mathematics. -/
import Derived.Test.YtfcphfdfpjmgiaaCont
import Derived.Test.YtfcphfdfpjmgiaaLM1
namespace Go.Proofs.Ytfcphfdfpjmgiaa
open Go.RowKit

/-- The side to which most flows, of the first sides, with what flows. -/
def topTo (m : M) (k : Nat) : Nat → Option Nat × F
  | 0 => (none, some 0)
  | s + 1 => if fgt (flow m k s) (topTo m k s).2 then (some s, flow m k s) else topTo m k s
theorem topTo_yes {m : M} {k s : Nat} (h : fgt (flow m k s) (topTo m k s).2 = true) : topTo m k (s + 1) = (some s, flow m k s) := by
  show (if _ then _ else _) = _; rw [h]; rfl
theorem topTo_no {m : M} {k s : Nat} (h : fgt (flow m k s) (topTo m k s).2 = false) : topTo m k (s + 1) = topTo m k s := by
  show (if _ then _ else _) = _; rw [h]; rfl

/-- The greatest flow so far is a number that is not negative. -/
theorem top_val {m : M} (h : okI m = true) {k : Nat} (hk : k < 64) (hh : hasB m.wide m.high k = true) (hfl : ∀ s, ∃ v, Val (flow m k s) v) : ∀ s, ∃ v, Val (topTo m k s).2 v ∧ 0 ≤ v
  | 0 => ⟨0, val_zero, by omega⟩
  | s + 1 => by
    obtain ⟨v, hv, h0⟩ := top_val h hk hh hfl s
    obtain ⟨w, hw⟩ := hfl s
    cases hc : fgt (flow m k s) (topTo m k s).2
    · rw [topTo_no hc]; exact ⟨v, hv, h0⟩
    · rw [topTo_yes hc]
      rw [fgt_val hw hv] at hc
      exact ⟨w, hw, by have := of_decide_eq_true hc; omega⟩

theorem flow_le {m : M} (h : okI m = true) {k s : Nat} (hk : k < 64) (hh : hasB m.wide m.high k = true) : Le (flow m k s) 50 := by
  have hsz := sized_of h
  unfold flow
  split
  · exact le_zero _
  · obtain ⟨n, hn2⟩ : ∃ n : Nat, beside m.wide m.high k s = n := ⟨(beside m.wide m.high k s).toNat, by omega⟩
    obtain ⟨hnl, hnh⟩ := beside_has hk hsz.1.2 hsz.2.2 hn2
    rw [hn2, Int.toNat_natCast]
    have J := joint_le (conduct_plain h hk hh) (conduct_plain h hnl hnh)
    have D : Le (fsub (m.h k) (m.h n)) 22 := (fsub_le (k := 20) (plain_le (head_plain h hk hh)) (plain_le (head_plain h hnl hnh)) (Int.le_refl _) (Int.le_refl _) (by omega)).mono (by omega)
    exact (fmul_le J D (by omega)).mono (by omega)
theorem flow_val {m : M} (h : okI m = true) {k : Nat} (hk : k < 64) (hh : hasB m.wide m.high k = true) (s : Nat) : ∃ v, Val (flow m k s) v := (flow_le h hk hh).val

/-- Where more flows than so far there is a cell. -/
theorem top_beside {m : M} (h : okI m = true) {k s : Nat} (hk : k < 64) (hh : hasB m.wide m.high k = true) (hg : fgt (flow m k s) (topTo m k s).2 = true) : 0 ≤ beside m.wide m.high k s := by
  rcases Int.lt_or_le (beside m.wide m.high k s) 0 with hn | hn
  · exfalso
    obtain ⟨v, hv, h0⟩ := top_val h hk hh (flow_val h hk hh) s
    have hf : flow m k s = some 0 := by unfold flow; rw [if_pos hn]
    rw [hf, fgt_val val_zero hv] at hg
    have := of_decide_eq_true hg
    omega
  · exact hn

/-- The cell to which most flows. -/
def nextI (m : M) (k : Nat) (s : Nat) : Int :=
  match (topTo m k s).1 with
  | none => -1
  | some t => beside m.wide m.high k t
def way (m : M) : Nat → List Nat → Int → List Nat
  | 0, out, _ => out
  | n + 1, out, z => if 0 ≤ z ∧ z.toNat ∉ out then way m n (out ++ [z.toNat]) (nextI m z.toNat 4) else out
def pathOf (m : M) (c : Nat) : List Nat := way m 65 [] c

theorem nodup_length : ∀ (n : Nat) (l : List Nat), l.Nodup → (∀ c ∈ l, c < n) → l.length ≤ n
  | 0, l, _, h => by
    cases l with
    | nil => simp
    | cons x r => exact absurd (h x (by simp)) (by omega)
  | n + 1, l, hd, h => by
    by_cases hm : n ∈ l
    · have h1 := nodup_length n (l.erase n) (hd.erase n) (fun c hc => by
        have h2 := h c (List.mem_of_mem_erase hc)
        have h3 : c ≠ n := fun e => by subst e; exact (List.Nodup.not_mem_erase hd) hc
        omega)
      rw [List.length_erase_of_mem hm] at h1
      omega
    · have := nodup_length n l hd (fun c hc => by
        have h2 := h c hc
        have h3 : c ≠ n := fun e => hm (e ▸ hc)
        omega)
      omega
end Go.Proofs.Ytfcphfdfpjmgiaa
