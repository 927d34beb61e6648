/- The drawdown is a finite number. -/
import Derived.Test.YtonmdkhfongmhaaNeg
namespace Go.Proofs.Ytonmdkhfongmhaa
open Go.RowKit

theorem fadd_le {x y : F} {i j k : Int} (hx : Le x i) (hy : Le y j) (hi : i ≤ k) (hj : j ≤ k) (hk : k + 1 ≤ 126) : Le (fadd x y) (max (k + 2) (-149)) := by
  obtain ⟨a, s, m, e, rfl, ha, _, hm⟩ := hx
  obtain ⟨b, t, n, f, rfl, hb, _, hn⟩ := hy
  have hs := sum_le (s := s) (t := t) hm hn hi hj
  have h : ∃ sg, fadd (some a) (some b) = some (Ieee.single.write (.number sg (Ieee.signed s m (e - min e f).toNat + Ieee.signed t n (f - min e f).toNat).natAbs (min e f))) := by
    refine ⟨if Ieee.signed s m (e - min e f).toNat + Ieee.signed t n (f - min e f).toNat = 0 then s && t else decide (Ieee.signed s m (e - min e f).toNat + Ieee.signed t n (f - min e f).toNat < 0), ?_⟩
    show ((Ieee.single.read a).sum (Ieee.single.read b)).map Ieee.single.write = _
    rw [ha, hb]; rfl
  obtain ⟨sg, h⟩ := h
  rw [h]
  exact (write_le (k := k + 1) rfl hs hk).mono (by omega)
theorem add_to {x y : F} {i j : Int} (k : Int) (hx : Le x i) (hy : Le y j) (hi : i + 2 ≤ k) (hj : j + 2 ≤ k) (h0 : 0 ≤ k) (hk : k ≤ 127) : Le (fadd x y) k := (fadd_le (k := k - 2) hx hy (by omega) (by omega) (by omega)).mono (by omega)
theorem sub_to {x y : F} {i j : Int} (k : Int) (hx : Le x i) (hy : Le y j) (hi : i + 2 ≤ k) (hj : j + 2 ≤ k) (h0 : 0 ≤ k) (hk : k ≤ 127) : Le (fsub x y) k := (fsub_le (k := k - 2) hx hy (by omega) (by omega) (by omega)).mono (by omega)
theorem mul_to {x y : F} {i j : Int} (k : Int) (hx : Le x i) (hy : Le y j) (hi : i + j + 2 ≤ k) (h0 : -149 ≤ k) (hk : i + j + 1 ≤ 126) : Le (fmul x y) k := (fmul_le hx hy hk).mono (by omega)
theorem div_to {x y : F} {i j : Int} (k : Int) (hx : Le x i) (hy : Ge y j) (hi : i - j + 1 ≤ k) (h0 : -149 ≤ k) (hk : i - j ≤ 126) : Le (fdiv x y) k := (fdiv_le hx hy hk).mono (by omega)
theorem le_c (b : Nat) (k : Int) (h : (match Ieee.single.read b with | .number _ m e => (decide (-149 ≤ e) && (m == 0 || decide (lg m e ≤ k))) | _ => false) = true) : Le (fb b) k := by
  cases hr : Ieee.single.read b with
  | nan => rw [hr] at h; cases h
  | infinity => rw [hr] at h; cases h
  | number s m e =>
    rw [hr] at h
    simp only [Bool.and_eq_true, Bool.or_eq_true, decide_eq_true_eq, beq_iff_eq] at h
    refine ⟨b, s, m, e, ?_, hr, h.1, h.2⟩
    unfold fb fbOf
    rw [hr]; rfl
theorem le_ofI2 {n : Int} {k : Nat} (h : n.natAbs < 2 ^ k) (hk : k ≤ 24) : Le (ofI n) (k - 1) := by
  have hn : n.natAbs < 16777216 := Nat.lt_of_lt_of_le h (Nat.pow_le_pow_right (by omega) hk)
  obtain ⟨b, j, h1, h2, h3⟩ := ofI_read n hn
  refine ⟨b, _, _, _, h1, h2, by omega, ?_⟩
  by_cases h0 : n.natAbs = 0
  · exact .inl (by rw [h0]; simp)
  · refine .inr ?_
    unfold lg
    have hne : n.natAbs <<< j ≠ 0 := by rw [Nat.shiftLeft_eq]; exact Nat.mul_ne_zero h0 (Nat.pos_iff_ne_zero.1 (Nat.two_pow_pos _))
    have h4 : (n.natAbs <<< j).log2 < k + j := (Nat.log2_lt hne).2 (by rw [Nat.shiftLeft_eq, Nat.pow_add]; exact Nat.mul_lt_mul_of_pos_right h (Nat.two_pow_pos _))
    omega

/-! Signs. -/
/-- Finite, and its sign is not set. -/
def NonN (x : F) : Prop := ∃ b m e, x = some b ∧ Ieee.single.read b = .number false m e
theorem read_sign {b : Nat} {s : Bool} {m : Nat} {e : Int} (h : Ieee.single.read b = .number s m e) : (b / 2147483648 % 2 == 1) = s := by
  have hs : Ieee.single.signWeight = 2147483648 := rfl
  unfold Ieee.Format.read at h
  simp only [hs] at h
  split at h
  · cases h; rfl
  · split at h
    · cases h; rfl
    · split at h <;> cases h
theorem write_sign {s t : Bool} {m n : Nat} {e f : Int} (h : Ieee.single.read (Ieee.single.write (.number s m e)) = .number t n f) : t = s := by
  have h1 := read_sign h
  obtain ⟨r, hr, h2⟩ := nearest_rung Ieee.single s m e
  have h3 : Ieee.single.write (.number s m e) = Ieee.single.word s r := h2
  rw [h3] at h1
  have hi : Ieee.single.infRung = 2139095040 := rfl
  rw [(word_mod s (r := r) (by omega)).2] at h1
  exact h1.symm
theorem Ge.non {x : F} {k : Int} (h : Ge x k) : NonN x := by obtain ⟨b, m, e, h1, h2, _⟩ := h; exact ⟨b, m, e, h1, h2⟩
theorem NonN.mul {x y : F} {k : Int} (hx : NonN x) (hy : NonN y) (hl : Le (fmul x y) k) : NonN (fmul x y) := by
  obtain ⟨a, m, e, rfl, ha⟩ := hx
  obtain ⟨b, n, f, rfl, hb⟩ := hy
  have h : fmul (some a) (some b) = some (Ieee.single.write (.number (false ^^ false) (m * n) (e + f))) := by
    show ((Ieee.single.read a).product (Ieee.single.read b)).map Ieee.single.write = _
    rw [ha, hb]; rfl
  rw [h] at hl ⊢
  obtain ⟨c, s, q, g, h1, h2, _⟩ := hl
  cases h1
  have := write_sign h2
  rw [this] at h2
  exact ⟨_, q, g, rfl, h2⟩
theorem NonN.div {x y : F} {k j : Int} (hx : NonN x) (hy : Ge y j) (hl : Le (fdiv x y) k) : NonN (fdiv x y) := by
  obtain ⟨a, m, e, rfl, ha⟩ := hx
  obtain ⟨b, n, f, rfl, hb, _, hn0, _⟩ := hy
  have hf : Ieee.single.fractionBits = 23 := rfl
  have h : ∃ M p, fdiv (some a) (some b) = some (Ieee.single.write (.number (false ^^ false) M p)) := by
    refine ⟨2 * ((m <<< (23 + 2 + n.log2 - m.log2)) / n) + ((m <<< (23 + 2 + n.log2 - m.log2)) % n != 0).toNat, e - f - (23 + 2 + n.log2 - m.log2 : Nat) - 1, ?_⟩
    show ((Ieee.single.read a).quotient (Ieee.single.fractionBits + 2) (Ieee.single.read b)).map Ieee.single.write = _
    rw [ha, hb, hf]
    simp only [Ieee.Datum.quotient]
    rw [if_neg hn0]
    rfl
  obtain ⟨M, p, h⟩ := h
  rw [h] at hl ⊢
  obtain ⟨c, s, q, g, h1, h2, _⟩ := hl
  cases h1
  have := write_sign h2
  rw [this] at h2
  exact ⟨_, q, g, rfl, h2⟩

/-! Numbers from 1 upwards, infinity among them. -/
def Big (x : F) : Prop := ∃ b, x = some b ∧ 1065353216 ≤ b ∧ b ≤ 2139095040
theorem Big.of {x : F} (h : Ge x 0) (hf : Fits x) : Big x := by
  obtain ⟨b, m, e, rfl, hr, he, hm, hk⟩ := h
  have h32 := hf b rfl
  have hsg := read_sign hr
  obtain ⟨_, h2, h3, h4⟩ := read_canon hr
  have hb : b < 2147483648 := by
    rcases Nat.lt_or_ge b 2147483648 with h | h
    · exact h
    · rw [show b / 2147483648 = 1 by omega] at hsg; cases hsg
  have hmod : b % 2147483648 = b := Nat.mod_eq_of_lt hb
  rw [hmod] at h3 h4
  have hlog : m.log2 ≤ 23 := by
    have : m < 2 ^ 24 := by rcases h2 with ⟨_, h⟩ | ⟨_, h⟩ <;> omega
    have := (Nat.log2_lt hm).2 this
    omega
  unfold lg at hk
  refine ⟨b, rfl, ?_, by omega⟩
  rcases h2 with ⟨rfl, _⟩ | ⟨h5, h6⟩
  · omega
  · omega
theorem Big.read {b : Nat} (h1 : 1065353216 ≤ b) (h2 : b ≤ 2139095040) : (b = 2139095040 ∧ Ieee.single.read b = .infinity false) ∨ (∃ m e, Ieee.single.read b = .number false m e ∧ 8388608 ≤ m ∧ -23 ≤ e) := by
  rcases Nat.lt_or_ge b 2139095040 with h | h
  · right
    have hmod : b % 2147483648 = b := Nat.mod_eq_of_lt (by omega)
    obtain ⟨m, e, hr, h3, h4, h5⟩ := read_rung b (by omega)
    rw [show b / 2147483648 = 0 by omega] at hr
    rw [hmod] at h3
    refine ⟨m, e, hr, ?_, ?_⟩
    · rcases h5 with ⟨rfl, h⟩ | ⟨h, _⟩ <;> omega
    · rcases h5 with ⟨rfl, h⟩ | ⟨h, _⟩ <;> omega
  · left
    have : b = 2139095040 := by omega
    subst this
    exact ⟨rfl, by decide⟩
theorem nb_kept (mag : Nat) (place L : Int) (h0 : mag ≠ 0) (hlg : L = (mag.log2 : Int) + place) : 8388608 ≤ Ieee.Toward.even.cut false (mag <<< (place - (L - 23)).toNat) (L - 23 - place).toNat := by
  have hge : 2 ^ mag.log2 ≤ mag := Nat.log2_self_le h0
  refine Nat.le_trans ?_ (cut_bounds _ _ _).1
  rcases Nat.lt_or_ge mag.log2 23 with h | h
  · have e3 : (L - 23 - place).toNat = 0 := by omega
    have e4 : (place - (L - 23)).toNat = 23 - mag.log2 := by omega
    rw [e3, e4, Nat.shiftLeft_eq, Nat.pow_zero, Nat.div_one]
    calc 8388608 = 2 ^ mag.log2 * 2 ^ (23 - mag.log2) := by rw [← Nat.pow_add, show mag.log2 + (23 - mag.log2) = 23 by omega]
      _ ≤ mag * 2 ^ (23 - mag.log2) := Nat.mul_le_mul_right _ hge
  · have e3 : (L - 23 - place).toNat = mag.log2 - 23 := by omega
    have e4 : (place - (L - 23)).toNat = 0 := by omega
    rw [e3, e4, Nat.shiftLeft_zero]
    rw [Nat.le_div_iff_mul_le (Nat.two_pow_pos _)]
    have e5 : (8388608 : Nat) = 2 ^ 23 := by decide
    rw [e5, ← Nat.pow_add, show 23 + (mag.log2 - 23) = mag.log2 by omega]
    exact hge
theorem nb_rung (q kept : Nat) (h1 : 126 ≤ q) (h2 : 8388608 ≤ kept) : 1065353216 ≤ min (q * 8388608 + kept) 2139095040 ∧ min (q * 8388608 + kept) 2139095040 ≤ 2139095040 := by omega
theorem nb_eq (mag : Nat) (place L : Int) (h0 : mag ≠ 0) (hlg : L = (mag.log2 : Int) + place) (h : 0 ≤ L) : Ieee.single.nearest false mag place = min ((L - 23 - -149).toNat * 8388608 + Ieee.Toward.even.cut false (mag <<< (place - (L - 23)).toNat) (L - 23 - place).toNat) 2139095040 := by
  have hf : Ieee.single.fractionBits = 23 := rfl
  have hb : Ieee.single.binade = 8388608 := rfl
  have hi : Ieee.single.infRung = 2139095040 := rfl
  have hl : Ieee.single.leastPlace = -149 := rfl
  unfold Ieee.Format.nearest
  rw [if_neg h0]
  simp only [hf, hb, hi, hl]
  have e1 : max (place + (mag.log2 : Int) - ((23 : Nat) : Int)) (-149) = L - 23 := by omega
  rw [e1]
  exact if_neg (by decide)
theorem nearest_big (mag : Nat) (place : Int) (h0 : mag ≠ 0) (h : 0 ≤ lg mag place) : 1065353216 ≤ Ieee.single.nearest false mag place ∧ Ieee.single.nearest false mag place ≤ 2139095040 := by
  have hL : lg mag place = (mag.log2 : Int) + place := rfl
  rw [nb_eq mag place _ h0 hL h]
  exact nb_rung _ _ (by omega) (nb_kept mag place _ h0 hL)
theorem Big.mul {x y : F} (hx : Big x) (hy : Big y) : Big (fmul x y) := by
  obtain ⟨a, rfl, a1, a2⟩ := hx
  obtain ⟨b, rfl, b1, b2⟩ := hy
  have h : fmul (some a) (some b) = ((Ieee.single.read a).product (Ieee.single.read b)).map Ieee.single.write := rfl
  rw [h]
  rcases Big.read a1 a2 with ⟨_, ha⟩ | ⟨m, e, ha, m1, e1⟩
  · rcases Big.read b1 b2 with ⟨_, hb⟩ | ⟨n, f, hb, n1, f1⟩
    · rw [ha, hb]; exact ⟨2139095040, rfl, by omega, by omega⟩
    · rw [ha, hb]
      simp only [Ieee.Datum.product]
      rw [if_neg (by omega)]
      exact ⟨2139095040, rfl, by omega, by omega⟩
  · rcases Big.read b1 b2 with ⟨_, hb⟩ | ⟨n, f, hb, n1, f1⟩
    · rw [ha, hb]
      simp only [Ieee.Datum.product]
      rw [if_neg (by omega)]
      exact ⟨2139095040, rfl, by omega, by omega⟩
    · rw [ha, hb]
      have hmn : m * n ≠ 0 := Nat.mul_ne_zero (by omega) (by omega)
      have hlg : 0 ≤ lg (m * n) (e + f) := by
        have : 2 ^ 46 ≤ m * n := by
          have := Nat.mul_le_mul m1 n1
          omega
        have := (Nat.le_log2 hmn).2 this
        unfold lg
        omega
      obtain ⟨h1, h2⟩ := nearest_big (m * n) (e + f) hmn hlg
      exact ⟨_, rfl, h1, h2⟩
theorem Big.under {x : F} (h : Big x) : Le (fdiv one x) 1 := by
  obtain ⟨b, rfl, b1, b2⟩ := h
  rcases Big.read b1 b2 with ⟨rfl, _⟩ | ⟨n, f, hb, n1, f1⟩
  · have : fdiv one (some 2139095040) = fb 0 := by decide +kernel
    rw [this]; exact le_c 0 1 (by decide +kernel)
  · have hg : Ge (some b) 0 := by
      obtain ⟨he, _⟩ := read_canon hb
      refine ⟨b, n, f, rfl, hb, he, by omega, ?_⟩
      have := (Nat.le_log2 (n := n) (k := 23) (by omega)).2 (by omega)
      unfold lg
      omega
    exact div_to 1 (le_c 1065353216 0 (by decide +kernel)) hg (by omega) (by omega) (by omega)
theorem sum_num' {x y d : Ieee.Datum} (h : x.sum y = some d) : d.isNaN = false := by
  cases x with
  | nan => cases h
  | infinity s => cases y with
    | nan => cases h
    | infinity t =>
      simp only [Ieee.Datum.sum] at h
      split at h
      · cases h; rfl
      · cases h
    | number t n j => cases h; rfl
  | number s m i => cases y with
    | nan => cases h
    | infinity t => cases h; rfl
    | number t n j => cases h; rfl
theorem fadd_fits (x y : F) : Fits (fadd x y) := by
  intro b h
  cases x with
  | none => cases h
  | some p => cases y with
    | none => cases h
    | some q =>
      have h' : ((Ieee.single.read p).sum (Ieee.single.read q)).map Ieee.single.write = some b := h
      cases hd : (Ieee.single.read p).sum (Ieee.single.read q) with
      | none => rw [hd] at h'; cases h'
      | some d => rw [hd] at h'; cases h'; exact write_fits d (sum_num' hd)

/-! The parts of the well's function. -/
theorem geOne : Ge one 0 := ⟨1065353216, 8388608, -23, by decide +kernel, by decide +kernel, by omega, by omega, by decide +kernel⟩
theorem leOne : Le one 0 := le_c 1065353216 0 (by decide +kernel)
theorem ge_comm {x y : F} {i : Int} (hx : Ge x 0) (hx2 : Le x i) (hy : NonN y) (hy2 : Le y i) (hi : i + 1 ≤ 126) : Ge (fadd x y) 0 := by
  rw [fadd_comm]
  exact fadd_ge hy2 hy hx hx2 hi (by omega) (by omega)
theorem fK_ok {u : F} (h0 : Ge u 0) (h1 : Le u 6) : ∀ j : Nat, j ≤ 8 → Ge (fK u j) 0 ∧ Le (fK u j) 12
  | 0, _ => ⟨h0, h1.mono (by omega)⟩
  | j + 1, hj => by
    obtain ⟨g, l⟩ := fK_ok h0 h1 j (by omega)
    have k1 : Le (ofI (8 - (j : Int))) 3 := (le_ofI2 (k := 4) (by omega) (by omega)).mono (by omega)
    have k2 : NonN (ofI (8 - (j : Int))) := by
      obtain ⟨b, p, e1, e2, _⟩ := ofI_read (8 - (j : Int)) (by omega)
      rw [decide_eq_false (by omega)] at e2
      exact ⟨b, _, _, e1, e2⟩
    have q1 := div_to 4 k1 g (by omega) (by omega) (by omega)
    have q2 := NonN.div k2 g q1
    have r1 := add_to 6 leOne q1 (by omega) (by omega) (by omega) (by omega)
    have r2 : Ge (fadd one (fdiv (ofI (8 - (j : Int))) (fK u j))) 0 := ge_comm (i := 4) geOne (leOne.mono (by omega)) q2 q1 (by omega)
    have s1 := div_to 4 k1 r2 (by omega) (by omega) (by omega)
    have s2 := NonN.div k2 r2 s1
    exact ⟨ge_comm (i := 6) h0 h1 s2 (s1.mono (by omega)) (by omega), add_to 12 h1 s1 (by omega) (by omega) (by omega) (by omega)⟩
theorem expF_ok {u : F} (h0 : Ge u 0) (h1 : Le u 6) : Le (expF u) 1 := by
  have gd : Ge (fb 1132462080) 8 := ⟨1132462080, 8388608, -15, by decide +kernel, by decide +kernel, by omega, by omega, by decide +kernel⟩
  have v1 := div_to (-1) h1 gd (by omega) (by omega) (by omega)
  have v2 := NonN.div h0.non gd v1
  have g6 : NonN (fb 1042983595) := ⟨1042983595, _, _, by decide +kernel, rfl⟩
  have ghalf : Ge (fb 1056964608) (-1) := ⟨1056964608, 8388608, -24, by decide +kernel, by decide +kernel, by omega, by omega, by decide +kernel⟩
  have lhalf : Le (fb 1056964608) 0 := le_c _ 0 (by decide +kernel)
  have a1 := mul_to 1 v1 (le_c 1042983595 0 (by decide +kernel)) (by omega) (by omega) (by omega)
  have a2 := NonN.mul v2 g6 a1
  have b1 := add_to 3 a1 lhalf (by omega) (by omega) (by omega) (by omega)
  have b2 := (fadd_ge (k := -1) a1 a2 ghalf (lhalf.mono (by omega)) (by omega) (by omega) (by omega)).non
  have c1 := mul_to 4 b1 v1 (by omega) (by omega) (by omega)
  have c2 := NonN.mul b2 v2 c1
  have d1 := add_to 6 c1 leOne (by omega) (by omega) (by omega) (by omega)
  have d2 := (fadd_ge (k := 0) c1 c2 geOne (leOne.mono (by omega)) (by omega) (by omega) (by omega)).non
  have e1 := mul_to 7 d1 v1 (by omega) (by omega) (by omega)
  have e2 := NonN.mul d2 v2 e1
  have f2 := fadd_ge (k := 0) e1 e2 geOne (leOne.mono (by omega)) (by omega) (by omega) (by omega)
  have hb : Big (expP u) := Big.of f2 (fadd_fits _ _)
  have hsq : ∀ n, Big (sqK (expP u) n) := fun n => by
    induction n with
    | zero => exact hb
    | succ n ih => exact ih.mul ih
  exact (hsq 8).under
theorem lnK_le {u : F} : ∀ (n k : Nat), (k = 0 ∨ flt (mK u (k - 1)) (fb 1061158912) = true) → (lnK u n k = 0 ∨ flt (mK u (lnK u n k - 1)) (fb 1061158912) = true) ∧ lnK u n k ≤ k + n
  | 0, k, h => ⟨h, Nat.le_refl _⟩
  | n + 1, k, h => by
    cases hl : flt (mK u k) (fb 1061158912)
    · rw [lnK_stop hl]; exact ⟨h, by omega⟩
    · rw [lnK_step hl]
      obtain ⟨h1, h2⟩ := lnK_le n (k + 1) (.inr hl)
      exact ⟨h1, by omega⟩
theorem lnF_ok {u : F} {v : Int} (hv : Val u v) (h1 : ((2 ^ 89 : Nat) : Int) ≤ v) (h2 : v ≤ ((2 ^ 149 : Nat) : Int)) : Le (lnF u) 70 := by
  obtain ⟨m, e, hn, e1, e2⟩ := nm_of hv h1 h2
  obtain ⟨k1, k2⟩ := lnK_le (u := u) 60 0 (.inl rfl)
  have hm : Le (mK u (lnN u)) 3 := by
    show Le (mK u (lnK u 60 0)) 3
    rcases k1 with k1 | k1
    · rw [k1]
      refine (val_le (k := 0) hv (by omega) ?_ ?_).mono (by omega)
      · refine Int.lt_of_le_of_lt h2 ?_; decide +kernel
      · refine Int.lt_of_lt_of_le ?_ h1; decide +kernel
    · cases hN : lnK u 60 0 with
      | zero => rw [hN] at k1; rw [show (0 - 1 : Nat) = 0 from rfl] at k1
                refine (val_le (k := 0) hv (by omega) ?_ ?_).mono (by omega)
                · refine Int.lt_of_le_of_lt h2 ?_; decide +kernel
                · refine Int.lt_of_lt_of_le ?_ h1; decide +kernel
      | succ r =>
        rw [hN] at k1 k2
        rw [show r + 1 - 1 = r by omega] at k1
        obtain ⟨b, hb, hr, h3, h4, h5⟩ := nm_mK hn e2 r (by omega)
        have hx : Val (mK u r) (Ieee.signed false m (e + (r : Int) + 149).toNat) := by rw [hb]; exact val_of hr h5
        rw [flt_val hx c75_val] at k1
        have k1 := of_decide_eq_true k1
        have hs : Ieee.signed false m (e + (r : Int) + 149).toNat = ((m <<< (e + (r : Int) + 149).toNat : Nat) : Int) := rfl
        have hl : Le (mK u r) 0 := by
          refine val_le (k := 0) hx (by omega) ?_ ?_
          · refine Int.lt_trans k1 ?_; decide +kernel
          · rw [hs]
            generalize m <<< (e + (r : Int) + 149).toNat = M
            have : (0 : Int) < ((2 ^ (0 + 150 : Int).toNat : Nat) : Int) := by decide +kernel
            omega
        exact mul_to 3 hl (le_c 1073741824 1 (by decide +kernel)) (by omega) (by omega) (by omega)
  have hN : lnN u ≤ 60 := by show lnK u 60 0 ≤ 60; omega
  have hnn : NonN (mK u (lnN u)) := by
    obtain ⟨b, hb, hr, _⟩ := nm_mK hn e2 (lnN u) hN
    exact ⟨b, _, _, hb, hr⟩
  have a1 := sub_to 5 hm leOne (by omega) (by omega) (by omega) (by omega)
  have a2 := fadd_ge (k := 0) hm hnn geOne (leOne.mono (by omega)) (by omega) (by omega) (by omega)
  have t := div_to 6 a1 a2 (by omega) (by omega) (by omega)
  have q := mul_to 14 t t (by omega) (by omega) (by omega)
  have p1 := mul_to 16 q (le_c 1041385765 0 (by decide +kernel)) (by omega) (by omega) (by omega)
  have p2 := add_to 18 p1 (le_c 1045220557 0 (by decide +kernel)) (by omega) (by omega) (by omega) (by omega)
  have p3 := mul_to 34 p2 q (by omega) (by omega) (by omega)
  have p4 := add_to 36 p3 (le_c 1051372203 0 (by decide +kernel)) (by omega) (by omega) (by omega) (by omega)
  have p5 := mul_to 52 p4 q (by omega) (by omega) (by omega)
  have p6 := add_to 54 p5 leOne (by omega) (by omega) (by omega) (by omega)
  have r1 := mul_to 62 t p6 (by omega) (by omega) (by omega)
  have r2 := mul_to 66 (le_c 1073741824 1 (by decide +kernel)) r1 (by omega) (by omega) (by omega)
  have s1 := mul_to 8 (le_ofI2 (n := -((lnN u : Nat) : Int)) (k := 6) (by omega) (by omega)) (le_c 1060205080 0 (by decide +kernel)) (by omega) (by omega) (by omega)
  exact add_to 70 s1 r2 (by omega) (by omega) (by omega) (by omega)
theorem wellH_ok {u : F} (h : Le u 0) : Le (wellH u) 20 := by
  have a := mul_to 2 h (le_c 987395086 0 (by decide +kernel)) (by omega) (by omega) (by omega)
  have b := sub_to 4 a (le_c 1009429163 0 (by decide +kernel)) (by omega) (by omega) (by omega) (by omega)
  have c := mul_to 6 b h (by omega) (by omega) (by omega)
  have d := add_to 8 c (le_c 1029934649 0 (by decide +kernel)) (by omega) (by omega) (by omega) (by omega)
  have e := mul_to 10 d h (by omega) (by omega) (by omega)
  have f := sub_to 12 e (le_c 1048576000 0 (by decide +kernel)) (by omega) (by omega) (by omega) (by omega)
  have g := mul_to 14 f h (by omega) (by omega) (by omega)
  exact add_to 20 g leOne (by omega) (by omega) (by omega) (by omega)
theorem wellF_ok {u : F} (h : Mid u) : Le (wellF u) 76 := by
  obtain ⟨v, hv, h1, h2⟩ := h.num
  unfold wellF
  rw [fle_val hv one_val]
  by_cases hl : v ≤ ((2 ^ 149 : Nat) : Int)
  · rw [if_pos (decide_eq_true hl)]
    have hu : Le u 0 := by
      refine val_le (k := 0) hv (by omega) ?_ ?_
      · refine Int.lt_of_le_of_lt hl ?_; decide +kernel
      · refine Int.lt_of_lt_of_le ?_ h1; decide +kernel
    have a := sub_to 72 (le_c 3205743720 0 (by decide +kernel)) (lnF_ok hv h1 hl) (by omega) (by omega) (by omega) (by omega)
    have b := mul_to 22 (wellH_ok hu) hu (by omega) (by omega) (by omega)
    exact add_to 76 a b (by omega) (by omega) (by omega) (by omega)
  · rw [if_neg (by rw [decide_eq_false hl]; decide)]
    have hg : Ge u 0 := val_ge (k := 0) hv (by omega) (by refine Int.le_trans ?_ (Int.le_of_lt (Int.not_le.1 hl)); decide +kernel)
    have hu : Le u 6 := by
      refine val_le (k := 6) hv (by omega) ?_ ?_
      · refine Int.lt_of_le_of_lt h2 ?_; decide +kernel
      · refine Int.lt_of_lt_of_le ?_ h1; decide +kernel
    exact div_to 76 (expF_ok hg hu) (fK_ok hg hu 8 (by omega)).1 (by omega) (by omega) (by omega)
theorem plain_le2 {x : F} (h : plain x = true) : Le x 20 := by
  have v1 : Val (some 1233125376) ((2 ^ 169 : Nat) : Int) := ⟨1233125376, false, 8388608, -3, rfl, by decide +kernel, by omega, by decide +kernel⟩
  have v2 : Val (some 3380609024) (-((2 ^ 169 : Nat) : Int)) := ⟨3380609024, true, 8388608, -3, rfl, by decide +kernel, by omega, by decide +kernel⟩
  unfold plain at h
  rw [Bool.and_eq_true] at h
  obtain ⟨v, hv, h1, h2⟩ := between h.1 h.2 v2 v1
  refine val_le (k := 20) hv (by omega) ?_ ?_
  · refine Int.lt_of_le_of_lt h2 ?_; decide +kernel
  · refine Int.lt_of_lt_of_le ?_ h1; decide +kernel
/-- A drawdown is finite. -/
theorem down_le {T S R : Nat} {X Y x y t : Int} (h : DownOk T S X Y x y t) (hR : plain (fb R) = true) : Le (downF (fb T) (fb S) (fb R) (x - X) (y - Y) t) 110 := by
  unfold downF
  cases hm : fgt (argF (fb T) (fb S) (x - X) (y - Y) t) c80
  · rw [if_neg (by decide)]
    obtain ⟨⟨t1, t2⟩, _⟩ := okA_parts h.aq
    have g1 : Ge (fb 1095307227) 3 := ⟨1095307227, _, _, by decide +kernel, rfl, by decide, by decide, by decide +kernel⟩
    have g := fmul_ge g1 t1 (le_c 1095307227 3 (by decide +kernel)) t2 (by omega) (by omega)
    have a := div_to 30 (plain_le2 hR) g (by omega) (by omega) (by omega)
    exact mul_to 110 a (wellF_ok (h.mid hm)) (by omega) (by omega) (by omega)
  · rw [if_pos rfl]; exact le_c 0 110 (by decide +kernel)
/-- The drawdowns of opposite rates add up to 0. -/
theorem down_opp {T S R R' : Nat} {X Y x y t : Int} (h : DownOk T S X Y x y t) (hR : plain (fb R) = true) (ho : Opp (fb R) (fb R')) : fadd (downF (fb T) (fb S) (fb R) (x - X) (y - Y) t) (downF (fb T) (fb S) (fb R') (x - X) (y - Y) t) = some 0 := by
  have hl := down_le h hR
  cases hm : fgt (argF (fb T) (fb S) (x - X) (y - Y) t) c80
  · refine Opp.sum ?_ hl
    unfold downF
    rw [hm, if_neg (by decide), if_neg (by decide)]
    exact (ho.div _).mul _
  · unfold downF
    rw [hm, if_pos rfl, if_pos rfl]
    decide +kernel
end Go.Proofs.Ytonmdkhfongmhaa
