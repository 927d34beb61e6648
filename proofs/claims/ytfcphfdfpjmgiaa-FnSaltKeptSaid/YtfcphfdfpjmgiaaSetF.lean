/- What the law on settled grounds asks: fixed heads stay, the greatest change is one of a cell, no share no change. -/
import Derived.Test.YtfcphfdfpjmgiaaSetL
namespace Go.Proofs.Ytfcphfdfpjmgiaa
open Go.RowKit

/-! One float a value that is not 0. -/
theorem canon_lt {m n E F' : Nat} (h : m * 2 ^ E = n * 2 ^ F') (hm : m < 16777216) (hn : F' = 0 ∧ n < 8388608 ∨ 8388608 ≤ n) (hlt : E < F') : False := by
  obtain ⟨d, rfl⟩ : ∃ d, F' = E + (d + 1) := ⟨F' - E - 1, by omega⟩
  rw [Nat.pow_add, Nat.mul_comm (2 ^ E), ← Nat.mul_assoc] at h
  have h2 := Nat.eq_of_mul_eq_mul_right (Nat.two_pow_pos E) h
  rw [Nat.pow_succ] at h2
  have h3 : 1 ≤ 2 ^ d := Nat.two_pow_pos d
  have h4 : 8388608 ≤ n := by omega
  have h5 : n * 1 ≤ n * 2 ^ d := Nat.mul_le_mul_left n h3
  rw [← Nat.mul_assoc] at h2
  omega
theorem num_rung {a : Nat} {s : Bool} {m : Nat} {e : Int} (ha : Ieee.single.read a = .number s m e) : a % 2147483648 < 2139095040 := by
  rcases Nat.lt_or_ge (a % 2147483648) 2139095040 with h | h
  · exact h
  · exfalso
    have hi : Ieee.single.infRung = 2139095040 := rfl
    have hbd : Ieee.single.binade = 8388608 := rfl
    have hs : Ieee.single.signWeight = 2147483648 := rfl
    unfold Ieee.Format.read at ha
    simp only [hi, hbd, hs] at ha
    rw [if_neg (by omega), if_neg (by omega)] at ha
    split at ha <;> cases ha
theorem val_bits {x y : F} {v : Int} (hx : Val x v) (hy : Val y v) (hv : v ≠ 0) (fx : Fits x) (fy : Fits y) : x = y := by
  obtain ⟨a, s, m, e, rfl, ha, _, e1⟩ := hx
  obtain ⟨b, t, n, f, rfl, hb, _, e2⟩ := hy
  have ga := num_rung ha
  have gb := num_rung hb
  obtain ⟨m', e', k1, k2, k3, k4⟩ := read_rung a ga
  obtain ⟨n', f', l1, l2, l3, l4⟩ := read_rung b gb
  rw [ha] at k1
  rw [hb] at l1
  cases k1
  cases l1
  have fa := fx a rfl
  have fb' := fy b rfl
  rw [signed_eq] at e1 e2
  have hs : (a / 2147483648 % 2 == 1) = (b / 2147483648 % 2 == 1) ∧ m * 2 ^ (e + 149).toNat = n * 2 ^ (f + 149).toNat := by
    generalize m * 2 ^ (e + 149).toNat = P at e1
    generalize n * 2 ^ (f + 149).toNat = Q at e2
    cases h1 : (a / 2147483648 % 2 == 1) <;> cases h2 : (b / 2147483648 % 2 == 1) <;> rw [h1] at e1 <;> rw [h2] at e2 <;> simp at e1 e2 <;> (refine ⟨?_, ?_⟩) <;> first | rfl | omega | (exfalso; omega)
  obtain ⟨hs1, hs2⟩ := hs
  have cm : (e + 149).toNat = 0 ∧ m < 8388608 ∨ 8388608 ≤ m := by omega
  have cn : (f + 149).toNat = 0 ∧ n < 8388608 ∨ 8388608 ≤ n := by omega
  have hE : (e + 149).toNat = (f + 149).toNat := by
    rcases Nat.lt_trichotomy (e + 149).toNat (f + 149).toNat with h | h | h
    · exact (canon_lt hs2 (by omega) cn h).elim
    · exact h
    · exact (canon_lt hs2.symm (by omega) cm h).elim
  rw [hE] at hs2
  have hmn := Nat.eq_of_mul_eq_mul_right (Nat.two_pow_pos _) hs2
  have hr : a % 2147483648 = b % 2147483648 := by omega
  have hq : a / 2147483648 % 2 = b / 2147483648 % 2 := by
    have h1 : a / 2147483648 % 2 = 0 ∨ a / 2147483648 % 2 = 1 := by omega
    have h2 : b / 2147483648 % 2 = 0 ∨ b / 2147483648 % 2 = 1 := by omega
    rcases h1 with h1 | h1 <;> rcases h2 with h2 | h2 <;> rw [h1, h2] at hs1 ⊢ <;> simp at hs1
  have : a = b := by omega
  rw [this]
theorem RV.bits {x y : F} {q : Rat} (hx : RV x q) (hy : RV y q) (hq : q ≠ 0) (fx : Fits x) (fy : Fits y) : x = y := by
  obtain ⟨v, h1, h2⟩ := hx
  obtain ⟨w, h3, h4⟩ := hy
  have hvw : v = w := (q_eq h2 h4).1 rfl
  subst hvw
  refine val_bits h1 h3 ?_ fx fy
  rintro rfl
  have := uQ_pos
  have h5 : q * uQ = 0 := h2
  rcases Rat.mul_eq_zero.1 h5 with h | h
  · exact hq h
  · grind

theorem mem_cellsS {m : M} {c : Nat} : c ∈ cellsM m ↔ IsCell m c := cellsTo_iff
/-! The greatest change. -/
theorem RV.abs {x : F} {q : Rat} (h : RV x q) (_ : q ≤ 10000000) (hb' : -q ≤ 10000000) : ∃ p, RV (fabs x) p ∧ (p = q ∨ p = -q) ∧ 0 ≤ p := by
  unfold fabs
  rw [h.le rv_zero]
  by_cases hq : q ≤ 0
  · rw [decide_eq_true hq, if_pos rfl]
    obtain ⟨r, h1, _, h3, h4⟩ := rv_zero.sub h (by grind) (by grind)
    have hneg : ∃ z, RV z (-q) := by
      obtain ⟨v, ⟨b, s, m, e, rfl, hd, he, hv⟩, hq2⟩ := h
      refine ⟨_, -v, ⟨Ieee.single.word (!s) (b % 2147483648), !s, m, e, rfl, ?_, he, ?_⟩, by rw [Rat.neg_mul, hq2, Rat.intCast_neg]⟩
      · have hr := num_rung hd
        obtain ⟨m', e', k1, k2, k3, k4⟩ := read_rung b hr
        rw [hd] at k1
        cases k1
        obtain ⟨m2, e2, l1, l2, l3, l4⟩ := read_word_of (!(b / 2147483648 % 2 == 1)) hr
        have : m2 = m ∧ e2 = e := by omega
        obtain ⟨rfl, rfl⟩ := this
        exact l1
      · rw [hv, signed_eq, signed_eq]
        cases s <;> simp
    obtain ⟨z, hz⟩ := hneg
    have l1 := h3 z _ hz (by grind)
    have l2 := h4 z _ hz (by grind)
    exact ⟨r, h1, .inr (Rat.le_antisymm l1 l2), by grind⟩
  · rw [decide_eq_false hq, if_neg (by simp)]
    exact ⟨q, h, .inl rfl, by grind⟩
theorem snoc_ind {P : List Nat → Prop} (h0 : P []) (h1 : ∀ l c, P l → P (l ++ [c])) : ∀ l, P l := by
  intro l
  rw [← List.reverse_reverse l]
  induction l.reverse with
  | nil => exact h0
  | cons c r ih => rw [List.reverse_cons]; exact h1 _ _ ih
/-- The best one of some cells has the greatest size. -/
theorem best_max {d : Nat → F} : ∀ (l : List Nat), (∀ c ∈ l, ∃ q, RV (fabs (d c)) q) → ∀ b, bestOf d l = some b → ∃ p, RV (fabs (d b)) p ∧ ∀ c ∈ l, ∃ q, RV (fabs (d c)) q ∧ q ≤ p := by
  intro l
  refine snoc_ind (P := fun l => (∀ c ∈ l, ∃ q, RV (fabs (d c)) q) → ∀ b, bestOf d l = some b → ∃ p, RV (fabs (d b)) p ∧ ∀ c ∈ l, ∃ q, RV (fabs (d c)) q ∧ q ≤ p) ?_ ?_ l
  · intro _ b hb; cases hb
  · intro l c ih h b hb
    rw [bestOf_snoc] at hb
    obtain ⟨qc, hqc⟩ := h c (by simp)
    cases hl : bestOf d l with
    | none =>
      rw [hl] at hb
      have hb : some c = some b := hb
      cases hb
      have hnil : l = [] := by
        cases l with
        | nil => rfl
        | cons x r =>
          obtain ⟨y, hy⟩ := bestOf_some (d := d) (l := x :: r) (by simp)
          rw [hl] at hy; cases hy
      subst hnil
      exact ⟨qc, hqc, fun x hx => by simp at hx; subst hx; exact ⟨qc, hqc, Rat.le_refl⟩⟩
    | some b0 =>
      rw [hl] at hb
      obtain ⟨p, hp, hall⟩ := ih (fun x hx => h x (by simp [hx])) b0 hl
      have hb : (if fgt (fabs (d c)) (fabs (d b0)) then some c else some b0) = some b := hb
      rw [hqc.gt hp] at hb
      by_cases hc : p < qc
      · rw [decide_eq_true hc, if_pos rfl] at hb
        cases hb
        refine ⟨qc, hqc, fun x hx => ?_⟩
        rcases List.mem_append.1 hx with h1 | h1
        · obtain ⟨q, k1, k2⟩ := hall x h1
          exact ⟨q, k1, by grind⟩
        · rw [List.mem_singleton.1 h1]; exact ⟨qc, hqc, Rat.le_refl⟩
      · rw [decide_eq_false hc, if_neg (by simp)] at hb
        cases hb
        refine ⟨p, hp, fun x hx => ?_⟩
        rcases List.mem_append.1 hx with h1 | h1
        · exact hall x h1
        · rw [List.mem_singleton.1 h1]; exact ⟨qc, hqc, by grind⟩
/-- The sizes of changes between two grounds with small heads. -/
theorem df_rv {m m' : M} {B : Rat} (h : HB m B) (h' : HB m' B) (hB : B ≤ 1000000) {k : Nat} (hk : IsCell m k) (hk' : IsCell m' k) : ∃ q, RV (df m m' k) q ∧ q ≤ 5000000 ∧ -q ≤ 5000000 := by
  obtain ⟨p, p1, p2, p3⟩ := h k hk
  obtain ⟨r, r1, r2, r3⟩ := h' k hk'
  obtain ⟨q, q1, qn, _, _⟩ := r1.sub p1 (by grind) (by grind)
  obtain ⟨n1, n2⟩ := qn 2000000 (by grind) (by grind)
  have hu := uQ_big
  exact ⟨q, q1, by grind, by grind⟩
theorem chg_max {m m' : M} (hs : sized m) (hl : Like m m') {B : Rat} (h : HB m B) (h' : HB m' B) (hB : B ≤ 1000000) :
    ∃ p, RV (chg m m') p ∧ 0 ≤ p ∧ p ≤ 5000000 ∧ (∃ c, IsCell m c ∧ RV (fabs (df m m' c)) p) ∧ ∀ c, IsCell m c → ∃ q, RV (fabs (df m m' c)) q ∧ q ≤ p := by
  obtain ⟨b, hb⟩ := bestOf_some (d := df m m') (cells_ne (m := m) hs.1.1 hs.2.1)
  have hmem := mem_cellsS.1 (bestOf_mem hb)
  have hall : ∀ c ∈ cellsM m, ∃ q, RV (fabs (df m m' c)) q := fun c hc => by
    have hcc := mem_cellsS.1 hc
    obtain ⟨q, q1, q2, q3⟩ := df_rv h h' hB hcc (hl.cell.2 hcc)
    obtain ⟨p, p1, _, _⟩ := q1.abs (by grind) (by grind)
    exact ⟨p, p1⟩
  obtain ⟨p, hp, hmax⟩ := best_max _ hall b hb
  obtain ⟨q, q1, q2, q3⟩ := df_rv h h' hB hmem (hl.cell.2 hmem)
  obtain ⟨p', p1, p2, p3⟩ := q1.abs (by grind) (by grind)
  have hpp := hp.inj p1
  subst hpp
  refine ⟨p, ?_, p3, by grind, ⟨b, hmem, hp⟩, fun c hc => hmax c (mem_cellsS.2 hc)⟩
  unfold chg
  rw [hb]; exact hp

/-! What the steps give. -/
theorem once_at (m : M) {k : Nat} : ∀ l : List Nat, k ∈ l → (once m l).h k = head m k := by
  refine snoc_ind (P := fun l => k ∈ l → (once m l).h k = head m k) (fun h => by cases h) ?_
  intro l c ih h
  rw [once_snoc]
  show upd (once m l).h c (head m c) k = _
  unfold upd
  by_cases e : k = c
  · rw [if_pos e, e]
  · rw [if_neg e]
    exact ih (by rcases List.mem_append.1 h with h1 | h1; exact h1; exact absurd (List.mem_singleton.1 h1) e)
theorem swp_fixed (m : M) {k : Nat} (hf : fixB m.fixed k = true) : ∀ l : List Nat, (swp m l).h k = m.h k ∧ (swp m l).fixed = m.fixed := by
  refine snoc_ind (P := fun l => (swp m l).h k = m.h k ∧ (swp m l).fixed = m.fixed) ⟨rfl, rfl⟩ ?_
  intro l c ih
  rw [swp_snoc]
  refine ⟨?_, ih.2⟩
  show upd (swp m l).h c (head (swp m l) c) k = _
  unfold upd
  by_cases e : k = c
  · rw [if_pos e, ← e, head_old (.inl (by rw [ih.2]; exact hf))]; exact ih.1
  · rw [if_neg e]; exact ih.1
theorem head_fix {m : M} {k : Nat} (hf : fixB m.fixed k = true) : head m k = m.h k := head_old (.inl hf)

/-- What is known of a drawn ground and the sweeps over it. -/
structure SetK (m : M) : Prop where
  ok : okI m = true
  sz : sized m
  len : (cellsM m).length ≤ 28
theorem cells_nodup (W H : Int) (k : Nat) : (cellsTo W H k).Nodup := by
  unfold cellsTo
  exact List.Pairwise.filter _ List.nodup_range
theorem Drawn.setk {g : G} (d : Drawn g) : SetK g.m := by
  refine ⟨d.ok, sized_of d.ok, cells_short d.wide.2 d.high.2 _ (cells_nodup _ _ _) fun c hc => mem_cellsS.1 hc⟩
theorem colTo_mem {m : M} {z : Int} {c : Nat} (h : c ∈ colTo m.wide m.high z 64) : IsCell m c := by
  unfold colTo at h
  obtain ⟨h1, h2⟩ := List.mem_filter.1 h
  rw [Bool.and_eq_true] at h2
  exact ⟨List.mem_range.1 h1, h2.1⟩
theorem colTo_len (m : M) (z : Int) : (colTo m.wide m.high z 64).length ≤ 64 := by
  unfold colTo
  exact Nat.le_trans (List.length_filter_le _ _) (by simp)
theorem len_q {n k : Nat} (h : n ≤ k) : (n : Rat) ≤ (k : Rat) := by exact_mod_cast h
theorem SetK.sw {m : M} (K : SetK m) (N : CG m) {H : Rat} (hH : 1 ≤ H) (hH2 : H ≤ 50000) (hb : HB m H) (l : List Nat) (hl : ∀ c ∈ l, IsCell m c) (hlen : l.length ≤ 64) :
    Like m (swp m l) ∧ HB (swp m l) (H + 2112) ∧ okI (swp m l) = true := by
  have h1 := len_q hlen
  have e64 : ((64 : Nat) : Rat) = 64 := rfl
  rw [e64] at h1
  obtain ⟨a, b⟩ := swp_like N K.sz hH l hl (by grind) hb
  exact ⟨a, b.mono (by grind), a.ok K.ok (b.mono (show _ ≤ 60000 by grind)) (by decide +kernel)⟩
theorem SetK.one {m : M} (K : SetK m) (N : CG m) {H : Rat} (hH : 1 ≤ H) (hH2 : H ≤ 50000) (hb : HB m H) : Like m (once m (cellsM m)) ∧ HB (once m (cellsM m)) (H + 33) ∧ okI (once m (cellsM m)) = true := by
  obtain ⟨a, b⟩ := once_like N K.sz hH (by grind) (cellsM m) (fun c hc => mem_cellsS.1 hc) hb
  exact ⟨a, b, a.ok K.ok (b.mono (show _ ≤ 60000 by grind)) (by decide +kernel)⟩
theorem SetK.step {m : M} (K : SetK m) (N : Nums m) : stepC m = 0 ∧ stepM m = once m (cellsM m) ∧ stepX m = chg m (once m (cellsM m)) := by
  obtain ⟨_, _, h⟩ := K.one N.cg (H := 18) (by decide) (by decide +kernel) N.hb
  unfold stepC stepM stepX swC swM swX
  rw [if_pos K.ok, if_pos K.ok, if_pos K.ok, if_pos h, if_pos h, if_pos h]
  exact ⟨rfl, rfl, rfl⟩
theorem cells_len64 (m : M) : (cellsM m).length ≤ 64 := cellsTo_length _ _ _
theorem SetK.ord {m : M} (K : SetK m) (N : Nums m) : ordC m = 0 ∧ ordM m = Go.Proofs.Ytfcphfdfpjmgiaa.swp m (cellsM m) := by
  obtain ⟨_, _, h⟩ := K.sw N.cg (H := 18) (by decide) (by decide +kernel) N.hb (cellsM m) (fun c hc => mem_cellsS.1 hc) (cells_len64 m)
  unfold ordC ordM swC swM
  rw [if_pos K.ok, if_pos K.ok, if_pos h, if_pos h]
  exact ⟨rfl, rfl⟩
theorem SetK.col {m : M} (K : SetK m) (N : CG m) {H : Rat} (hH : 1 ≤ H) (hH2 : H ≤ 50000) (hb : HB m H) {z : Int} (hz : 0 ≤ z ∧ z ≤ 1) :
    clC m z = 0 ∧ clM m z = colM m z ∧ clX m z = chg m (colM m z) ∧ okI (colM m z) = true ∧ Like m (colM m z) ∧ HB (colM m z) (H + 2112) := by
  obtain ⟨a, b, h⟩ := K.sw N hH hH2 hb (colTo m.wide m.high z 64) (fun c hc => colTo_mem hc) (colTo_len m z)
  have h : okI (colM m z) = true := h
  unfold clC clM clX swC swM swX
  rw [if_pos K.ok, if_pos K.ok, if_pos K.ok, if_pos (decide_eq_true hz), if_pos (decide_eq_true hz), if_pos (decide_eq_true hz), if_pos h, if_pos h, if_pos h]
  exact ⟨rfl, rfl, rfl, h, a, b⟩
theorem fadd_fits (x y : F) : Fits (fadd x y) := by
  intro b h
  cases x with
  | none => cases h
  | some p => cases y with
    | none => cases h
    | some q =>
      have h' : ((Ieee.single.read p).sum (Ieee.single.read q)).map Ieee.single.write = some b := h
      cases hd : (Ieee.single.read p).sum (Ieee.single.read q) with
      | none => rw [hd] at h'; cases h'
      | some d => rw [hd] at h'; cases h'; exact write_fits d (sum_num hd)
/-- A number and nothing. -/
theorem add_none {x d : F} {p q : Rat} (hx : RV x p) (hd : RV d q) (hp : 1 ≤ p) (hp2 : p ≤ 1000) (fx : Fits x) : fadd x (fmul (some 0) d) = x := by
  obtain ⟨r, h1, _, h3, h4⟩ := rv_zero.mul hd (by rw [Rat.zero_mul]; decide +kernel) (by rw [Rat.zero_mul]; decide +kernel)
  have hr : r = 0 := Rat.le_antisymm (h3 _ _ rv_zero (by rw [Rat.zero_mul]; exact Rat.le_refl)) (h4 _ _ rv_zero (by rw [Rat.zero_mul]; exact Rat.le_refl))
  subst hr
  obtain ⟨s, k1, _, k3, k4⟩ := hx.add h1 (by grind) (by grind)
  have hs : s = p := Rat.le_antisymm (k3 _ _ hx (by grind)) (k4 _ _ hx (by grind))
  subst hs
  exact RV.bits k1 hx (by grind) (fadd_fits _ _) fx
theorem upd_self {α : Type} (f : Nat → α) (k : Nat) : upd f k (f k) = f := by
  funext i
  unfold upd
  by_cases h : i = k
  · rw [if_pos h, h]
  · rw [if_neg h]
theorem Nums.fits {m : M} (N : Nums m) {k : Nat} (hk : IsCell m k) : Fits (m.h k) := by
  have := N.hr k
  rw [N.hv k hk.1 hk.2, (qF_eq (by omega) (by omega)).2]
  intro b hb
  cases hb
  have h : ∀ n : Fin 105, qB ((n.val : Int) - 32) < 4294967296 := by decide +kernel
  have h2 : qB (((((N.h k) + 32).toNat : Nat) : Int) - 32) < 4294967296 := h ⟨(N.h k + 32).toNat, by omega⟩
  rwa [show (((N.h k + 32).toNat : Nat) : Int) - 32 = N.h k by omega] at h2
theorem rlx_none {m : M} (K : SetK m) (N : Nums m) : ∀ l : List Nat, (∀ c ∈ l, IsCell m c) → rlx m (some 0) l = m := by
  intro l
  unfold rlx
  induction l with
  | nil => intro _; rfl
  | cons c r ih =>
    intro hc
    have hcc : IsCell m c := hc c (by simp)
    have e : rlxStep (some 0) m c = m := by
      unfold rlxStep
      split
      · rfl
      · obtain ⟨p, p1, _, _⟩ := N.hb.head N.cg K.sz (by decide) (by decide +kernel) hcc
        have hh := N.rvh hcc
        have h1 := N.hr c
        have a1 := quart_le (show N.h c ≤ 72 by omega)
        have a2 := quart_le (show 8 ≤ N.h c by omega)
        have e72 : quart 72 = 18 := by decide +kernel
        have e8 : quart 8 = 2 := by decide +kernel
        rw [e72] at a1
        rw [e8] at a2
        obtain ⟨p, p1, p2, p3⟩ := N.hb.head N.cg K.sz (by decide) (by decide +kernel) hcc
        obtain ⟨d, d1, _, _, _⟩ := p1.sub hh (by grind) (by grind)
        rw [add_none hh d1 (by grind) (by grind) (N.fits hcc)]
        unfold setH
        rw [upd_self]
    show List.foldl (rlxStep (some 0)) (rlxStep (some 0) m c) r = m
    rw [e]
    exact ih (fun x hx => hc x (by simp [hx]))
theorem chg_none {m : M} (K : SetK m) (N : Nums m) : chg m m = some 0 := by
  obtain ⟨b, hb⟩ := bestOf_some (d := df m m) (cells_ne (m := m) K.sz.1.1 K.sz.2.1)
  have hmem := mem_cellsS.1 (bestOf_mem hb)
  have hd : df m m b = some 0 := by
    unfold df
    obtain ⟨v, ⟨c, s, mm, e, hc, hr, _, _⟩, _⟩ := N.rvh hmem
    rw [hc]
    show ((Ieee.single.read c).sum (Ieee.single.read c).opposite).map Ieee.single.write = _
    rw [hr]
    have ht : Ieee.signed s mm (e - min e e).toNat + Ieee.signed (!s) mm (e - min e e).toNat = 0 := by
      unfold Ieee.signed; generalize mm <<< (e - min e e).toNat = X; cases s <;> simp <;> omega
    simp only [Ieee.Datum.opposite, Ieee.Datum.sum, ht, Option.map_some]
    have : (s && !s) = false := by cases s <;> rfl
    rw [if_pos trivial, this]
    show some (Ieee.single.nearest false 0 _) = _
    unfold Ieee.Format.nearest
    rw [if_pos (by rfl)]; rfl
  unfold chg
  rw [hb]
  show fabs (df m m b) = _
  rw [hd]; decide
theorem SetK.rlx0 {m : M} (K : SetK m) (N : Nums m) : rlxC m (some 0) = 0 ∧ rlxM m (some 0) = m ∧ rlxX m (some 0) = some 0 := by
  have h1 : shareOk (some 0) = true := by decide
  have h2 := rlx_none K N (cellsM m) (fun c hc => mem_cellsS.1 hc)
  unfold rlxC rlxM rlxX swC swM swX
  rw [if_pos K.ok, if_pos K.ok, if_pos K.ok, if_pos h1, if_pos h1, if_pos h1, h2, if_pos K.ok, if_pos K.ok, if_pos K.ok]
  exact ⟨rfl, rfl, chg_none K N⟩
/-- The second colour's sweep, and both. -/
theorem SetK.two {m : M} (K : SetK m) (N : Nums m) : SetK (colM m 0) ∧ clC (colM m 0) 1 = 0 ∧ clM (colM m 0) 1 = colM (colM m 0) 1 ∧ clX (colM m 0) 1 = chg (colM m 0) (colM (colM m 0) 1) ∧
    bothR m = (colM (colM m 0) 1, fgreat (chg m (colM m 0)) (chg (colM m 0) (colM (colM m 0) 1)), 0) := by
  obtain ⟨_, _, _, h4, h5, h6⟩ := K.col N.cg (H := 18) (by decide) (by decide +kernel) N.hb (z := 0) ⟨by omega, by omega⟩
  have K1 : SetK (colM m 0) := ⟨h4, sized_of h4, by unfold cellsM; rw [h5.wide, h5.high]; exact K.len⟩
  obtain ⟨k1, k2, k3, k4, _, _⟩ := K1.col (N.cg.like h5) (H := 2130) (by decide +kernel) (by decide +kernel) (h6.mono (by decide +kernel)) (z := 1) ⟨by omega, by omega⟩
  refine ⟨K1, k1, k2, k3, ?_⟩
  unfold bothR
  rw [if_pos K.ok, if_pos h4, if_pos k4]
theorem SetK.nums {m : M} (K : SetK m) (N : Nums m) : (∃ b, chg m (colM m 0) = some b ∧ b < 2147483648) ∧ ∃ b, chg (colM m 0) (colM (colM m 0) 1) = some b ∧ b < 2147483648 := by
  obtain ⟨_, _, _, h4, h5, h6⟩ := K.col N.cg (H := 18) (by decide) (by decide +kernel) N.hb (z := 0) ⟨by omega, by omega⟩
  have K1 : SetK (colM m 0) := ⟨h4, sized_of h4, by unfold cellsM; rw [h5.wide, h5.high]; exact K.len⟩
  obtain ⟨_, _, _, k4, k5, _⟩ := K1.col (N.cg.like h5) (H := 2130) (by decide +kernel) (by decide +kernel) (h6.mono (by decide +kernel)) (z := 1) ⟨by omega, by omega⟩
  exact ⟨chg_num K.ok h4 h5.wide h5.high, chg_num h4 k4 k5.wide k5.high⟩

/-! The cells whose change is the greatest one. -/
def anyTo (m m' : M) (k : Nat) : Bool := (List.range k).any fun j => hasB m.wide m.high j && feq (fabs (df m m' j)) (chg m m')
theorem any_more (m m' : M) (k : Nat) : anyTo m m' (k + 1) = (anyTo m m' k || (hasB m.wide m.high k && feq (fabs (df m m' k)) (chg m m'))) := by
  unfold anyTo
  rw [List.range_succ, List.any_append]; simp
theorem any_all {m m' : M} (h : ∃ c, IsCell m c ∧ feq (fabs (df m m' c)) (chg m m') = true) : anyTo m m' 64 = true := by
  obtain ⟨c, hc, h2⟩ := h
  unfold anyTo
  rw [List.any_eq_true]
  exact ⟨c, List.mem_range.2 hc.1, by rw [hc.2, h2]; rfl⟩
end Go.Proofs.Ytfcphfdfpjmgiaa
