/- The law on settled grounds: the least and the greatest head beside a cell. -/
import Derived.Test.YtfcphfdfpjmgiaaSetF
import Derived.Test.YtfcphfdfpjmgiaaInOrd
namespace Go.Proofs.Ytfcphfdfpjmgiaa

structure SideOk (m : M) (N : Nums m) (i s a b : Nat) (f : Bool) : Prop where
  ca : IsCell m a
  cb : IsCell m b
  r1 : f = false → ∀ t n : Nat, t < s → beside m.wide m.high i t = n → jQ (N.c i) (N.c n) ≠ 0 → N.h a ≤ N.h n ∧ N.h n ≤ N.h b
  r2 : f = true → a = i ∧ b = i ∧ ∀ t n : Nat, t < s → beside m.wide m.high i t = n → jQ (N.c i) (N.c n) = 0
  r3 : f = false → ∃ t n : Nat, t < s ∧ beside m.wide m.high i t = n ∧ jQ (N.c i) (N.c n) ≠ 0
variable {m : M} {N : Nums m} {i s a b : Nat} {f : Bool}
theorem SideOk.start (hc : IsCell m i) : SideOk m N i 0 i i true :=
  ⟨hc, hc, fun h => (by cases h), fun _ => ⟨rfl, rfl, fun t n h => absurd h (by omega)⟩, fun h => by cases h⟩
theorem SideOk.skip (h : SideOk m N i s a b f) (hz : ∀ n : Nat, beside m.wide m.high i s = n → jQ (N.c i) (N.c n) = 0) : SideOk m N i (s + 1) a b f := by
  refine ⟨h.ca, h.cb, fun hf t n ht hn hj => ?_, fun hf => ⟨(h.r2 hf).1, (h.r2 hf).2.1, fun t n ht hn => ?_⟩, fun hf => ?_⟩
  · by_cases e : t = s
    · subst e; exact absurd (hz n hn) hj
    · exact h.r1 hf t n (by omega) hn hj
  · by_cases e : t = s
    · subst e; exact hz n hn
    · exact (h.r2 hf).2.2 t n (by omega) hn
  · obtain ⟨t, n, h1, h2, h3⟩ := h.r3 hf
    exact ⟨t, n, by omega, h2, h3⟩
theorem SideOk.none (h : SideOk m N i s a b f) (hn : beside m.wide m.high i s < 0) : SideOk m N i (s + 1) a b f :=
  h.skip fun n hn2 => by omega
theorem SideOk.zero (h : SideOk m N i s a b f) {n : Nat} (hn : beside m.wide m.high i s = n) (hj : jQ (N.c i) (N.c n) = 0) : SideOk m N i (s + 1) a b f :=
  h.skip fun n2 hn2 => by
    have : n2 = n := by omega
    rw [this]; exact hj
theorem SideOk.first (h : SideOk m N i s a b true) {n : Nat} (hn : beside m.wide m.high i s = n) (hc : IsCell m n) (hj : jQ (N.c i) (N.c n) ≠ 0) : SideOk m N i (s + 1) n n false := by
  refine ⟨hc, hc, fun _ t n2 ht hn2 hj2 => ?_, fun hf => (by cases hf), fun _ => ⟨s, n, by omega, hn, hj⟩⟩
  by_cases e : t = s
  · subst e
    have : n2 = n := by omega
    rw [this]; omega
  · exact absurd ((h.r2 rfl).2.2 t n2 (by omega) hn2) hj2
theorem SideOk.next (h : SideOk m N i s a b false) {n : Nat} (hn : beside m.wide m.high i s = n) (hc : IsCell m n) (hj : jQ (N.c i) (N.c n) ≠ 0) {a' b' : Nat}
    (ha : a' = if N.h n < N.h a then n else a) (hb : b' = if N.h b < N.h n then n else b) : SideOk m N i (s + 1) a' b' false := by
  have ca : IsCell m a' := by rw [ha]; split; exact hc; exact h.ca
  have cb : IsCell m b' := by rw [hb]; split; exact hc; exact h.cb
  have l1 : N.h a' ≤ N.h a ∧ N.h a' ≤ N.h n := by rw [ha]; split <;> omega
  have l2 : N.h b ≤ N.h b' ∧ N.h n ≤ N.h b' := by rw [hb]; split <;> omega
  refine ⟨ca, cb, fun _ t n2 ht hn2 hj2 => ?_, fun hf => (by cases hf), fun _ => ⟨s, n, by omega, hn, hj⟩⟩
  by_cases e : t = s
  · subst e
    have : n2 = n := by omega
    rw [this]; omega
  · have := h.r1 rfl t n2 (by omega) hn2 hj2
    omega
theorem SideOk.mid (h : SideOk m N i 4 a b f) (hs : sized m) (hc : IsCell m i) (hfx : fixB m.fixed i = false) (hg : N.g i = 0) :
    ∃ q, RV (head m i) q ∧ quart (N.h a) - 1 / 2000 ≤ q ∧ q ≤ quart (N.h b) + 1 / 2000 := by
  have h1 := N.hr a
  have h2 := N.hr b
  cases f with
  | true =>
    obtain ⟨rfl, rfl, hz⟩ := h.r2 rfl
    exact head_mid N hs hc hfx hg (by omega) (by omega) (fun s n h1 h2 h3 => absurd (hz s n h1 h2) h3) (fun _ => ⟨Int.le_refl _, Int.le_refl _⟩)
  | false =>
    obtain ⟨t, n, k1, k2, k3⟩ := h.r3 rfl
    exact head_mid N hs hc hfx hg (by omega) (by omega) (fun s n h1 h2 h3 => h.r1 rfl s n h1 h2 h3) (fun hz => absurd (hz t n k1 k2) k3)
end Go.Proofs.Ytfcphfdfpjmgiaa
