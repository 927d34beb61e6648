/- Grounds behind sweeps: their heads stay small, they are valid. -/
import Derived.Test.YtfcphfdfpjmgiaaSetM
import Derived.Test.YtfcphfdfpjmgiaaRelax
import Derived.Test.YtfcphfdfpjmgiaaBoth
namespace Go.Proofs.Ytfcphfdfpjmgiaa
open Go.RowKit

/-- All heads of cells are numbers of at most this size. -/
def HB (m : M) (B : Rat) : Prop := ∀ k, IsCell m k → ∃ q, RV (m.h k) q ∧ q ≤ B ∧ -q ≤ B
theorem HB.mono {m : M} {B C : Rat} (h : HB m B) (hc : B ≤ C) : HB m C := fun k hk => by
  obtain ⟨q, h1, h2, h3⟩ := h k hk
  exact ⟨q, h1, by grind, by grind⟩
theorem Nums.hb {m : M} (N : Nums m) : HB m 18 := fun k hk => by
  have h1 := N.hr k
  have a1 := quart_le (show N.h k ≤ 72 by omega)
  have a2 := quart_le (show 8 ≤ N.h k by omega)
  have e72 : quart 72 = 18 := by decide +kernel
  have e8 : quart 8 = 2 := by decide +kernel
  rw [e72] at a1
  rw [e8] at a2
  exact ⟨_, N.rvh hk, by grind, by grind⟩
/-- Another ground with heads of its own. -/
structure Like (m m' : M) : Prop where
  wide : m'.wide = m.wide
  high : m'.high = m.high
  c : m'.c = m.c
  g : m'.g = m.g
  fixed : m'.fixed = m.fixed
  out : ∀ k, k < 64 → hasB m.wide m.high k = false → m'.h k = m.h k
theorem Like.refl (m : M) : Like m m := ⟨rfl, rfl, rfl, rfl, rfl, fun _ _ _ => rfl⟩
theorem Like.set {m m' : M} (h : Like m m') {c : Nat} (hc : IsCell m c) (x : F) : Like m (setH m' c x) :=
  ⟨h.wide, h.high, h.c, h.g, h.fixed, fun k hk hh => by
    show upd m'.h c x k = _
    unfold upd
    rw [if_neg (by rintro rfl; rw [hc.2] at hh; cases hh)]
    exact h.out k hk hh⟩
theorem Like.cell {m m' : M} (h : Like m m') {k : Nat} : IsCell m' k ↔ IsCell m k := by unfold IsCell; rw [h.wide, h.high]
theorem Like.sized {m m' : M} (h : Like m m') (hs : sized m) : sized m' := by unfold Go.Proofs.Ytfcphfdfpjmgiaa.sized; rw [h.wide, h.high]; exact hs
def CG.like {m m' : M} (N : CG m) (h : Like m m') : CG m' :=
  ⟨N.c, N.g, N.cr, N.gr, fun k hk hh => by rw [h.c]; exact N.cv k hk (by rw [← h.wide, ← h.high]; exact hh), fun k hk hh => by rw [h.g]; exact N.gv k hk (by rw [← h.wide, ← h.high]; exact hh)⟩
theorem HB.beside {m : M} (N : CG m) (hs : sized m) {H : Rat} (h : HB m H) {k : Nat} (hk : IsCell m k) : Beside m N k H (-H) H := fun s n hs4 hn => by
  obtain ⟨q, h1, h2, h3⟩ := h n (beside_cell hs hk.1 hn)
  exact ⟨q, h1, h2, h3, fun _ => ⟨by grind, h2⟩⟩
theorem HB.head {m : M} (N : CG m) (hs : sized m) {H : Rat} (h : HB m H) (hH : 1 ≤ H) (hH2 : H ≤ 100000) {k : Nat} (hk : IsCell m k) : ∃ q, RV (head m k) q ∧ q ≤ H + 33 ∧ -q ≤ H + 33 := by
  obtain ⟨q0, h1, h2, h3⟩ := h k hk
  exact head_bound N hs hk hH hH2 h1 h2 h3 (h.beside N hs hk)
theorem HB.set {m : M} {B : Rat} (h : HB m B) (c : Nat) {x : F} {q : Rat} (hx : RV x q) (h1 : q ≤ B) (h2 : -q ≤ B) : HB (setH m c x) B := fun k hk => by
  have hk' : IsCell m k := hk
  show ∃ q, RV (upd m.h c x k) q ∧ _
  unfold upd
  by_cases e : k = c
  · rw [if_pos e]; exact ⟨q, hx, h1, h2⟩
  · rw [if_neg e]; exact h k hk'
theorem swp_like {m : M} (N : CG m) (hs : sized m) {H : Rat} (hH : 1 ≤ H) : ∀ (l : List Nat), (∀ c ∈ l, IsCell m c) → H + 33 * l.length ≤ 100000 → HB m H → Like m (swp m l) ∧ HB (swp m l) (H + 33 * l.length) := by
  intro l
  suffices ∀ (l : List Nat) (m' : M) (B : Rat), Like m m' → HB m' B → 1 ≤ B → (∀ c ∈ l, IsCell m c) → B + 33 * l.length ≤ 100000 → Like m (l.foldl (fun m c => setH m c (head m c)) m') ∧ HB (l.foldl (fun m c => setH m c (head m c)) m') (B + 33 * l.length) from
    fun hc hb h => this l m H (Like.refl m) h hH hc hb
  intro l
  induction l with
  | nil => intro m' B h1 h2 _ _ _; exact ⟨h1, h2.mono (by have : ((([] : List Nat).length : Nat) : Rat) = 0 := rfl; grind)⟩
  | cons c r ih =>
    intro m' B h1 h2 hB hc hb
    have hlen : (((c :: r).length : Nat) : Rat) = (r.length : Rat) + 1 := by rw [List.length_cons]; exact_mod_cast rfl
    have hr0 : (0 : Rat) ≤ (r.length : Rat) := by exact_mod_cast Nat.zero_le _
    rw [hlen] at hb ⊢
    have hcc : IsCell m c := hc c (by simp)
    obtain ⟨q, k1, k2, k3⟩ := h2.head (N.like h1) (h1.sized hs) hB (by grind) (h1.cell.2 hcc)
    obtain ⟨i1, i2⟩ := ih (setH m' c (head m' c)) (B + 33) (h1.set hcc _) ((h2.mono (by grind)).set c k1 k2 k3) (by grind) (fun x hx => hc x (by simp [hx])) (by grind)
    exact ⟨i1, i2.mono (by grind)⟩
theorem once_like {m : M} (N : CG m) (hs : sized m) {H : Rat} (hH : 1 ≤ H) (hH2 : H ≤ 100000) : ∀ (l : List Nat), (∀ c ∈ l, IsCell m c) → HB m H → Like m (once m l) ∧ HB (once m l) (H + 33) := by
  intro l
  suffices ∀ (l : List Nat) (m' : M), Like m m' → HB m' (H + 33) → HB m H → (∀ c ∈ l, IsCell m c) → Like m (l.foldl (fun m' c => setH m' c (head m c)) m') ∧ HB (l.foldl (fun m' c => setH m' c (head m c)) m') (H + 33) from
    fun hc h => this l m (Like.refl m) (h.mono (by grind)) h hc
  intro l
  induction l with
  | nil => intro m' h1 h2 _ _; exact ⟨h1, h2⟩
  | cons c r ih =>
    intro m' h1 h2 h3 hc
    have hcc : IsCell m c := hc c (by simp)
    obtain ⟨q, k1, k2, k3⟩ := h3.head N hs hH hH2 hcc
    exact ih (setH m' c (head m c)) (h1.set hcc _) (h2.set c k1 k2 k3) h3 (fun x hx => hc x (by simp [hx]))
theorem plain_q2 {x : F} {q : Rat} (h : RV x q) (h1 : q ≤ 1048576) (h2 : -q ≤ 1048576) : plain x = true := by
  have r1 : RV (some 1233125376) 1048576 := RV.of (v := 2 ^ 169) (by decide +kernel) (by decide +kernel)
  have r2 : RV (some 3380609024) (-1048576) := RV.of (v := -2 ^ 169) (by decide +kernel) (by decide +kernel)
  unfold plain
  rw [h.ge r2, h.le r1, Bool.and_eq_true]
  exact ⟨decide_eq_true (by grind), decide_eq_true h1⟩
/-- Such a ground is valid as the first one is. -/
theorem Like.ok {m m' : M} (h : Like m m') (ho : okI m = true) {B : Rat} (hb : HB m' B) (hB : B ≤ 1048576) : okI m' = true := by
  have hs := sized_of ho
  unfold okI at ho ⊢
  simp only [Bool.and_eq_true] at ho ⊢
  obtain ⟨⟨h1, h2⟩, h3⟩ := ho
  refine ⟨⟨decide_eq_true (h.sized hs), ?_⟩, ?_⟩
  · unfold fieldsI at h2 ⊢
    simp only [Bool.and_eq_true] at h2 ⊢
    rw [h.wide, h.high, h.c, h.g]
    refine ⟨h2.1, ?_⟩
    have h4 := h2.2
    unfold fieldTo at h4 ⊢
    rw [List.all_eq_true] at h4 ⊢
    intro j hj
    have hj64 := List.mem_range.1 hj
    have h5 := h4 j hj
    cases hh : hasB m.wide m.high j
    · rw [hh] at h5
      simp only [Bool.false_eq_true, if_false] at h5 ⊢
      rw [h.out j hj64 hh]; exact h5
    · simp only [if_true]
      obtain ⟨q, k1, k2, k3⟩ := hb j (h.cell.2 ⟨hj64, hh⟩)
      exact plain_q2 k1 (by grind) (by grind)
  · unfold fixedOk cellsM at h3 ⊢
    rw [h.fixed, h.wide, h.high]; exact h3
theorem cells_short {m : M} (hw : m.wide ≤ 4) (hh : m.high ≤ 4) (l : List Nat) (hd : l.Nodup) (hl : ∀ c ∈ l, IsCell m c) : l.length ≤ 28 := by
  refine nodup_length 28 l hd fun c hc => ?_
  obtain ⟨h1, h2⟩ := hl c hc
  unfold hasB at h2
  rw [Bool.and_eq_true] at h2
  have a1 := of_decide_eq_true h2.1
  have a2 := of_decide_eq_true h2.2
  omega
end Go.Proofs.Ytfcphfdfpjmgiaa
