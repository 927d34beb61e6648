/- Bounds through float arithmetic: how large, how small. -/
import Derived.Test.YtekemhibnokhcaaDoorLg
namespace Go.Proofs.YtekemhibnokhcaaDoor
open Go.RowKit

/-- A finite number below '2 ^ (k + 1)' in size. -/
def Le (x : F) (k : Int) : Prop := ∃ b s m e, x = some b ∧ Ieee.single.read b = .number s m e ∧ -149 ≤ e ∧ (m = 0 ∨ lg m e ≤ k)
/-- A finite positive number, at least '2 ^ k'. -/
def Ge (x : F) (k : Int) : Prop := ∃ b m e, x = some b ∧ Ieee.single.read b = .number false m e ∧ -149 ≤ e ∧ m ≠ 0 ∧ k ≤ lg m e

theorem Le.mono {x : F} {k k' : Int} (h : Le x k) (hk : k ≤ k') : Le x k' := by
  obtain ⟨b, s, m, e, h1, h2, h3, h4⟩ := h
  exact ⟨b, s, m, e, h1, h2, h3, h4.imp id (fun h => Int.le_trans h hk)⟩

theorem nearest_zero (s : Bool) (p : Int) : Ieee.single.read (Ieee.single.nearest s 0 p) = .number s 0 (-149) := by
  unfold Ieee.Format.nearest
  rw [if_pos rfl]
  cases s <;> decide

/-- A rounded number is bounded as the number is. -/
theorem write_le {d : Ieee.Datum} {s : Bool} {mag : Nat} {place k : Int} (hd : d = .number s mag place) (h : mag = 0 ∨ lg mag place ≤ k) (hk : k ≤ 126) : Le (some (Ieee.single.write d)) (max (k + 1) (-149)) := by
  subst hd
  by_cases h0 : mag = 0
  · subst h0
    exact ⟨_, s, 0, -149, rfl, nearest_zero s place, by omega, .inl rfl⟩
  · have hl : lg mag place ≤ k := h.resolve_left h0
    obtain ⟨m, e, h1, h2, h3, _⟩ := nearest_data s mag place h0 (by omega)
    exact ⟨_, s, m, e, rfl, h1, h2, h3.imp id (fun h => by omega)⟩

theorem log2_mul (m n : Nat) (hm : m ≠ 0) (hn : n ≠ 0) : (m * n).log2 ≤ m.log2 + n.log2 + 1 := by
  have h0 : m * n ≠ 0 := Nat.mul_ne_zero hm hn
  have h1 : m < 2 ^ (m.log2 + 1) := Nat.lt_log2_self
  have h2 : n < 2 ^ (n.log2 + 1) := Nat.lt_log2_self
  have h3 : m * n < 2 ^ (m.log2 + n.log2 + 2) := by
    calc m * n < 2 ^ (m.log2 + 1) * 2 ^ (n.log2 + 1) := Nat.mul_lt_mul'' h1 h2
      _ = 2 ^ (m.log2 + n.log2 + 2) := by rw [← Nat.pow_add]; congr 1; omega
  have := (Nat.log2_lt h0).2 h3
  omega

theorem fmul_le {x y : F} {i j : Int} (hx : Le x i) (hy : Le y j) (hk : i + j + 1 ≤ 126) : Le (fmul x y) (max (i + j + 2) (-149)) := by
  obtain ⟨a, s, m, e, rfl, ha, _, hm⟩ := hx
  obtain ⟨b, t, n, f, rfl, hb, _, hn⟩ := hy
  have h : fmul (some a) (some b) = some (Ieee.single.write (.number (s ^^ t) (m * n) (e + f))) := by
    show ((Ieee.single.read a).product (Ieee.single.read b)).map Ieee.single.write = _
    rw [ha, hb]; rfl
  rw [h]
  have := write_le (d := .number (s ^^ t) (m * n) (e + f)) (k := i + j + 1) rfl ?_ hk
  · exact this.mono (by omega)
  · by_cases h0 : m * n = 0
    · exact .inl h0
    · refine .inr ?_
      have hm0 : m ≠ 0 := fun h => h0 (by rw [h, Nat.zero_mul])
      have hn0 : n ≠ 0 := fun h => h0 (by rw [h, Nat.mul_zero])
      have h1 := hm.resolve_left hm0
      have h2 := hn.resolve_left hn0
      have h3 := log2_mul m n hm0 hn0
      unfold lg at *
      omega

theorem shl_lt {m : Nat} {e base k : Int} (hb : base ≤ e) (h : m = 0 ∨ lg m e ≤ k) : m <<< (e - base).toNat < 2 ^ (k + 1 - base).toNat := by
  rw [Nat.shiftLeft_eq]
  by_cases h0 : m = 0
  · subst h0; rw [Nat.zero_mul]; exact Nat.two_pow_pos _
  · have hl := h.resolve_left h0
    have h1 : m < 2 ^ (m.log2 + 1) := Nat.lt_log2_self
    calc m * 2 ^ (e - base).toNat < 2 ^ (m.log2 + 1) * 2 ^ (e - base).toNat := Nat.mul_lt_mul_of_pos_right h1 (Nat.two_pow_pos _)
      _ = 2 ^ (m.log2 + 1 + (e - base).toNat) := by rw [← Nat.pow_add]
      _ ≤ 2 ^ (k + 1 - base).toNat := Nat.pow_le_pow_right (by decide) (by unfold lg at hl; omega)

theorem signed_abs (s : Bool) (m up : Nat) : (Ieee.signed s m up).natAbs = m <<< up := by
  unfold Ieee.signed; generalize m <<< up = M; cases s <;> simp

theorem sum_le {s t : Bool} {m n : Nat} {e f i j k : Int} (hm : m = 0 ∨ lg m e ≤ i) (hn : n = 0 ∨ lg n f ≤ j) (hi : i ≤ k) (hj : j ≤ k) :
    (Ieee.signed s m (e - min e f).toNat + Ieee.signed t n (f - min e f).toNat).natAbs = 0 ∨ lg (Ieee.signed s m (e - min e f).toNat + Ieee.signed t n (f - min e f).toNat).natAbs (min e f) ≤ k + 1 := by
  generalize hB : min e f = B
  have h1 := shl_lt (m := m) (e := e) (base := B) (k := k) (by omega) (hm.imp id (fun h => by omega))
  have h2 := shl_lt (m := n) (e := f) (base := B) (k := k) (by omega) (hn.imp id (fun h => by omega))
  have a1 := signed_abs s m (e - B).toNat
  have a2 := signed_abs t n (f - B).toNat
  by_cases h0 : (Ieee.signed s m (e - B).toNat + Ieee.signed t n (f - B).toNat).natAbs = 0
  · exact .inl h0
  · refine .inr ?_
    have hk : B ≤ k := by
      by_cases hm0 : m = 0
      · by_cases hn0 : n = 0
        · subst hm0; subst hn0
          rw [Nat.zero_shiftLeft] at a1 a2
          omega
        · have := hn.resolve_left hn0
          unfold lg at this
          omega
      · have := hm.resolve_left hm0
        unfold lg at this
        omega
    generalize Ieee.signed s m (e - B).toNat = S at *
    generalize Ieee.signed t n (f - B).toNat = T at *
    have h3 : (S + T).natAbs < 2 ^ ((k + 1 - B).toNat + 1) := by
      rw [Nat.pow_succ]
      omega
    have := (Nat.log2_lt h0).2 h3
    unfold lg
    omega

theorem fsub_le {x y : F} {i j k : Int} (hx : Le x i) (hy : Le y j) (hi : i ≤ k) (hj : j ≤ k) (hk : k + 1 ≤ 126) : Le (fsub x y) (max (k + 2) (-149)) := by
  obtain ⟨a, s, m, e, rfl, ha, _, hm⟩ := hx
  obtain ⟨b, t, n, f, rfl, hb, _, hn⟩ := hy
  have hs := sum_le (s := s) (t := !t) hm hn hi hj
  have h : ∃ sg, fsub (some a) (some b) = some (Ieee.single.write (.number sg (Ieee.signed s m (e - min e f).toNat + Ieee.signed (!t) n (f - min e f).toNat).natAbs (min e f))) := by
    refine ⟨if Ieee.signed s m (e - min e f).toNat + Ieee.signed (!t) n (f - min e f).toNat = 0 then s && !t else decide (Ieee.signed s m (e - min e f).toNat + Ieee.signed (!t) n (f - min e f).toNat < 0), ?_⟩
    show ((Ieee.single.read a).sum (Ieee.single.read b).opposite).map Ieee.single.write = _
    rw [ha, hb]; rfl
  obtain ⟨sg, h⟩ := h
  rw [h]
  exact (write_le (k := k + 1) rfl hs hk).mono (by omega)

/-- The sum of two positive numbers is not below either. -/
theorem fadd_ge {x y : F} {i j k : Int} (hx : Le x i) (hx0 : ∃ b m e, x = some b ∧ Ieee.single.read b = .number false m e) (hy : Ge y j) (hy2 : Le y i) (hi : i + 1 ≤ 126) (hj : k ≤ j) (hk : -149 ≤ k) : Ge (fadd x y) k := by
  obtain ⟨a, m, e, rfl, ha⟩ := hx0
  obtain ⟨a', s', m', e', e1, ha', _, hm⟩ := hx
  cases e1
  rw [ha] at ha'
  cases ha'
  obtain ⟨b, n, f, rfl, hb, _, hn0, hn⟩ := hy
  obtain ⟨b', t', n', f', e2, hb', _, hn2⟩ := hy2
  cases e2
  rw [hb] at hb'
  cases hb'
  have hs := sum_le (s := false) (t := false) hm hn2 (Int.le_refl i) (Int.le_refl i)
  generalize hB : min e f = B at hs
  have hT : (Ieee.signed false m (e - B).toNat + Ieee.signed false n (f - B).toNat) = ((m <<< (e - B).toNat + n <<< (f - B).toNat : Nat) : Int) := by unfold Ieee.signed; simp
  have hQ0 : n <<< (f - B).toNat ≠ 0 := by rw [Nat.shiftLeft_eq]; exact Nat.mul_ne_zero hn0 (Nat.pos_iff_ne_zero.1 (Nat.two_pow_pos _))
  have hQ1 : 2 ^ (n.log2 + (f - B).toNat) ≤ n <<< (f - B).toNat := by
    rw [Nat.pow_add, Nat.shiftLeft_eq]
    exact Nat.mul_le_mul_right _ (Nat.log2_self_le hn0)
  rw [hT] at hs
  have h : ∀ P Q : Nat, m <<< (e - B).toNat = P → n <<< (f - B).toNat = Q → Q ≠ 0 → fadd (some a) (some b) = some (Ieee.single.write (.number false (P + Q) B)) := by
    intro P Q h1 h2 h3
    show ((Ieee.single.read a).sum (Ieee.single.read b)).map Ieee.single.write = _
    rw [ha, hb]
    simp only [Ieee.Datum.sum, hB, hT, Option.map_some, Int.natAbs_natCast, h1, h2]
    rw [if_neg (by omega), decide_eq_false (by omega)]
  have h := h _ _ rfl rfl hQ0
  rw [h]
  generalize m <<< (e - B).toNat = P at hs
  generalize n <<< (f - B).toNat = Q at hs hQ0 hQ1
  rw [Int.natAbs_natCast] at hs
  have hM0 : P + Q ≠ 0 := by omega
  have hub : lg (P + Q) B ≤ 126 := by have := hs.resolve_left hM0; omega
  obtain ⟨q, g, h1, h2, _, h4⟩ := nearest_data false (P + Q) B hM0 hub
  have hlow : j ≤ lg (P + Q) B := by
    have h6 := (Nat.le_log2 hM0).2 (Nat.le_trans hQ1 (Nat.le_add_left Q P))
    have hl : lg n f = (n.log2 : Int) + f := rfl
    show j ≤ ((P + Q).log2 : Int) + B
    omega
  obtain ⟨h7, h8⟩ := h4 (by omega)
  exact ⟨_, q, g, rfl, h1, h2, h7, by omega⟩

theorem fdiv_le {x y : F} {i j : Int} (hx : Le x i) (hy : Ge y j) (hk : i - j ≤ 126) : Le (fdiv x y) (max (i - j + 1) (-149)) := by
  obtain ⟨a, s, m, e, rfl, ha, _, hm⟩ := hx
  obtain ⟨b, n, f, rfl, hb, _, hn0, hn⟩ := hy
  have hf : Ieee.single.fractionBits = 23 := rfl
  generalize hmore : 25 + n.log2 - m.log2 = more
  have h : fdiv (some a) (some b) = some (Ieee.single.write (.number (s ^^ false) (2 * ((m <<< more) / n) + ((m <<< more) % n != 0).toNat) (e - f - more - 1))) := by
    show ((Ieee.single.read a).quotient (Ieee.single.fractionBits + 2) (Ieee.single.read b)).map Ieee.single.write = _
    rw [ha, hb, hf]
    simp only [Ieee.Datum.quotient]
    rw [if_neg hn0]
    simp only [Option.map_some]
    rw [show 23 + 2 + n.log2 - m.log2 = more from hmore]
  rw [h]
  refine (write_le (k := i - j) rfl ?_ hk).mono (by omega)
  by_cases hm0 : m = 0
  · refine .inl ?_
    subst hm0
    rw [Nat.zero_shiftLeft, Nat.zero_div, Nat.zero_mod]; rfl
  · have hl := hm.resolve_left hm0
    by_cases hz : 2 * ((m <<< more) / n) + ((m <<< more) % n != 0).toNat = 0
    · exact .inl hz
    · refine .inr ?_
      have hlt : m < 2 ^ (m.log2 + 1) := Nat.lt_log2_self
      have hge : 2 ^ n.log2 ≤ n := Nat.log2_self_le hn0
      have hq : (m <<< more) / n < 2 ^ (m.log2 + 1 + more - n.log2) := by
        rw [Nat.div_lt_iff_lt_mul (Nat.pos_of_ne_zero hn0), Nat.shiftLeft_eq]
        calc m * 2 ^ more < 2 ^ (m.log2 + 1) * 2 ^ more := Nat.mul_lt_mul_of_pos_right hlt (Nat.two_pow_pos _)
          _ = 2 ^ (m.log2 + 1 + more - n.log2) * 2 ^ n.log2 := by rw [← Nat.pow_add, ← Nat.pow_add]; congr 1; omega
          _ ≤ 2 ^ (m.log2 + 1 + more - n.log2) * n := Nat.mul_le_mul_left _ hge
      have hb1 : ((m <<< more) % n != 0).toNat ≤ 1 := by cases ((m <<< more) % n != 0) <;> decide
      have h2 : 2 * ((m <<< more) / n) + ((m <<< more) % n != 0).toNat < 2 ^ (m.log2 + 1 + more - n.log2 + 1) := by
        rw [Nat.pow_succ]; omega
      have := (Nat.log2_lt hz).2 h2
      unfold lg at *
      omega
end Go.Proofs.YtekemhibnokhcaaDoor
