/- The functions of wells on numbers, and their bounds. -/
import Derived.Test.YtonmdkhfongmhaaVc
namespace Go.Proofs.Ytonmdkhfongmhaa
open Go.RowKit

def one : F := fb 1065353216
def two : F := fb 1073741824
def cTiny : F := fb 562036736
def c80 : F := fb 1117782016
/-- Doubled so often. -/
def mK (u : F) : Nat → F
  | 0 => u
  | k + 1 => fmul (mK u k) two
def lnK (u : F) : Nat → Nat → Nat
  | 0, k => k
  | n + 1, k => if flt (mK u k) (fb 1061158912) then lnK u n (k + 1) else k
def lnN (u : F) : Nat := lnK u 60 0
/-- From the number that was doubled so often. -/
def lnOf (m : F) (k : Nat) : F :=
  let t := fdiv (fsub m one) (fadd m one)
  let q := fmul t t
  let p := fadd (fmul q (fb 1041385765)) (fb 1045220557)
  let p := fadd (fmul p q) (fb 1051372203)
  let p := fadd (fmul p q) one
  fadd (fmul (ofI (-(k : Int))) (fb 1060205080)) (fmul two (fmul t p))
def lnF (u : F) : F := lnOf (mK u (lnN u)) (lnN u)
def sqK (p : F) : Nat → F
  | 0 => p
  | n + 1 => fmul (sqK p n) (sqK p n)
def expP (u : F) : F :=
  let v := fdiv u (fb 1132462080)
  let p := fadd (fmul v (fb 1042983595)) (fb 1056964608)
  let p := fadd (fmul p v) one
  fadd (fmul p v) one
def expF (u : F) : F := fdiv one (sqK (expP u) 8)
def fK (u : F) : Nat → F
  | 0 => u
  | j + 1 => fadd u (fdiv (ofI (8 - (j : Int))) (fadd one (fdiv (ofI (8 - (j : Int))) (fK u j))))
def wellH (u : F) : F :=
  let h := fsub (fmul u (fb 987395086)) (fb 1009429163)
  let h := fadd (fmul h u) (fb 1029934649)
  let h := fsub (fmul h u) (fb 1048576000)
  fadd (fmul h u) one
def wellF (u : F) : F := if fle u one then fadd (fsub (fb 3205743720) (lnF u)) (fmul (wellH u) u) else fdiv (expF u) (fK u 8)
/-- The square of a distance. -/
def distF (dx dy : Int) : F := if dx * dx + dy * dy = 0 then fb 1031798784 else ofI (dx * dx + dy * dy)
def rawF (T S : F) (dx dy t : Int) : F := fdiv (fmul (distF dx dy) S) (fmul (fmul (fb 1082130432) T) (ofI t))
def argF (T S : F) (dx dy t : Int) : F := if flt (rawF T S dx dy t) cTiny then cTiny else rawF T S dx dy t
def downF (T S R : F) (dx dy t : Int) : F := if fgt (argF T S dx dy t) c80 then some 0 else fmul (fdiv R (fmul (fb 1095307227) T)) (wellF (argF T S dx dy t))
def okA (T S : F) : Bool := fge T (fb 981467136) && fle T (fb 1233125376) && fge S (fb 897581056) && fle S one

/-- A number between two finite ones is finite. -/
theorem between {x c d : F} {cv dv : Int} (h1 : fge x c = true) (h2 : fle x d = true) (hc : Val c cv) (hd : Val d dv) : ∃ v, Val x v ∧ cv ≤ v ∧ v ≤ dv := by
  have hn : ∃ b s m e, x = some b ∧ Ieee.single.read b = .number s m e := by
    cases x with
    | none => cases c <;> cases h1
    | some b =>
      obtain ⟨b1, s1, m1, e1, rfl, r1, _, _⟩ := hc
      obtain ⟨b2, s2, m2, e2, rfl, r2, _, _⟩ := hd
      have o1 : ford (some b) (some b1) = (Ieee.single.read b).order (Ieee.single.read b1) := rfl
      have o2 : ford (some b) (some b2) = (Ieee.single.read b).order (Ieee.single.read b2) := rfl
      cases hr : Ieee.single.read b with
      | number s m e => exact ⟨b, s, m, e, rfl, hr⟩
      | nan s t =>
        exfalso
        unfold fge fgt feq at h1
        rw [o1, hr] at h1
        cases h1
      | infinity s =>
        exfalso
        unfold fge fgt feq at h1
        unfold fle flt feq at h2
        rw [o1, hr, r1] at h1
        rw [o2, hr, r2] at h2
        cases s
        · cases h2
        · cases h1
  obtain ⟨b, s, m, e, rfl, hr⟩ := hn
  obtain ⟨he, _⟩ := read_canon hr
  have hv := val_of hr he
  refine ⟨_, hv, ?_, ?_⟩
  · rw [fge_val hv hc] at h1; exact of_decide_eq_true h1
  · rw [fle_val hv hd] at h2; exact of_decide_eq_true h2

theorem val_ge {x : F} {v k : Int} (h : Val x v) (hk : -149 ≤ k) (hv : ((2 ^ (k + 149).toNat : Nat) : Int) ≤ v) : Ge x k := by
  obtain ⟨b, s, m, e, rfl, hr, he, rfl⟩ := h
  have hp : 0 < (2 ^ (k + 149).toNat : Nat) := Nat.two_pow_pos _
  cases s
  · have hs : Ieee.signed false m (e + 149).toNat = ((m <<< (e + 149).toNat : Nat) : Int) := rfl
    rw [hs] at hv
    have hv' : 2 ^ (k + 149).toNat ≤ m <<< (e + 149).toNat := by exact_mod_cast hv
    have h0 : m ≠ 0 := by
      rintro rfl
      rw [Nat.zero_shiftLeft] at hv'
      omega
    refine ⟨b, m, e, rfl, hr, he, h0, ?_⟩
    have hne : m <<< (e + 149).toNat ≠ 0 := by omega
    have h1 := (Nat.le_log2 hne).2 hv'
    rw [log2_shl m _ h0] at h1
    unfold lg
    omega
  · exfalso
    have hs : Ieee.signed true m (e + 149).toNat = -((m <<< (e + 149).toNat : Nat) : Int) := rfl
    rw [hs] at hv
    clear hs
    generalize m <<< (e + 149).toNat = M at hv
    omega
theorem val_le {x : F} {v k : Int} (h : Val x v) (hk : -150 ≤ k) (hv : v < ((2 ^ (k + 150).toNat : Nat) : Int)) (hv2 : -((2 ^ (k + 150).toNat : Nat) : Int) < v) : Le x k := by
  obtain ⟨b, s, m, e, rfl, hr, he, rfl⟩ := h
  refine ⟨b, s, m, e, rfl, hr, he, ?_⟩
  by_cases h0 : m = 0
  · exact .inl h0
  · refine .inr ?_
    have ha := signed_abs s m (e + 149).toNat
    generalize Ieee.signed s m (e + 149).toNat = S at *
    have hlt : m <<< (e + 149).toNat < 2 ^ (k + 150).toNat := by
      rw [← ha]
      generalize (2 ^ (k + 150).toNat : Nat) = M at *
      omega
    have hne : m <<< (e + 149).toNat ≠ 0 := by rw [Nat.shiftLeft_eq]; exact Nat.mul_ne_zero h0 (Nat.pos_iff_ne_zero.1 (Nat.two_pow_pos _))
    have h1 := (Nat.log2_lt hne).2 hlt
    rw [log2_shl m _ h0] at h1
    unfold lg
    omega

theorem log2_mul_ge (m n : Nat) (hm : m ≠ 0) (hn : n ≠ 0) : m.log2 + n.log2 ≤ (m * n).log2 := by
  refine (Nat.le_log2 (Nat.mul_ne_zero hm hn)).2 ?_
  rw [Nat.pow_add]
  exact Nat.mul_le_mul (Nat.log2_self_le hm) (Nat.log2_self_le hn)
theorem fmul_ge {x y : F} {i j p q : Int} (hx : Ge x i) (hy : Ge y j) (hx2 : Le x p) (hy2 : Le y q) (hk : p + q + 1 ≤ 126) (hl : -149 ≤ i + j) : Ge (fmul x y) (i + j) := by
  obtain ⟨a, m, e, rfl, ha, _, hm0, hm⟩ := hx
  obtain ⟨b, n, f, rfl, hb, _, hn0, hn⟩ := hy
  obtain ⟨a', s', m', e', e1, ha', _, hm2⟩ := hx2
  cases e1
  rw [ha] at ha'
  cases ha'
  obtain ⟨b', t', n', f', e2, hb', _, hn2⟩ := hy2
  cases e2
  rw [hb] at hb'
  cases hb'
  have hm2 := hm2.resolve_left hm0
  have hn2 := hn2.resolve_left hn0
  have h0 : m * n ≠ 0 := Nat.mul_ne_zero hm0 hn0
  have g1 := log2_mul_ge m n hm0 hn0
  have g2 := log2_mul m n hm0 hn0
  have h : fmul (some a) (some b) = some (Ieee.single.nearest false (m * n) (e + f)) := by
    show ((Ieee.single.read a).product (Ieee.single.read b)).map Ieee.single.write = _
    rw [ha, hb]; rfl
  rw [h]
  unfold lg at hm hn hm2 hn2
  obtain ⟨r, g, h1, h2, _, h4⟩ := nearest_data false (m * n) (e + f) h0 (by unfold lg; omega)
  have hlow : i + j ≤ lg (m * n) (e + f) := by unfold lg; omega
  obtain ⟨h5, h6⟩ := h4 (by omega)
  exact ⟨_, r, g, rfl, h1, h2, h5, by omega⟩

theorem ofI_val (n : Int) (h : n.natAbs < 16777216) : Val (ofI n) (n * ((2 ^ 149 : Nat) : Int)) := by
  obtain ⟨b, j, hb, hr, hj⟩ := ofI_read n h
  refine ⟨b, _, _, _, hb, hr, by omega, ?_⟩
  unfold Ieee.signed
  rw [← Nat.shiftLeft_add, show j + (0 - (j : Int) + 149).toNat = 149 by omega, Nat.shiftLeft_eq]
  generalize (2 ^ 149 : Nat) = M
  by_cases hn : n < 0
  · simp only [hn, decide_true, if_true]
    obtain ⟨k, rfl⟩ : ∃ k : Nat, n = -(k : Int) := ⟨n.natAbs, by omega⟩
    rw [Int.natAbs_neg, Int.natAbs_natCast]
    simp [Int.neg_mul]
  · simp only [hn, decide_false, Bool.false_eq_true, if_false]
    obtain ⟨k, rfl⟩ : ∃ k : Nat, n = (k : Int) := ⟨n.natAbs, by omega⟩
    rw [Int.natAbs_natCast]
    simp

theorem one_eq : one = ofI 1 := by decide +kernel
theorem tiny_val : Val cTiny ((2 ^ 89 : Nat) : Int) := ⟨562036736, false, 8388608, -83, by decide +kernel, by decide +kernel, by omega, by decide +kernel⟩
theorem c80_val : Val c80 (80 * ((2 ^ 149 : Nat) : Int)) := ⟨1117782016, false, 10485760, -17, by decide +kernel, by decide +kernel, by omega, by decide +kernel⟩
theorem one_val : Val one ((2 ^ 149 : Nat) : Int) := ⟨1065353216, false, 8388608, -23, by decide +kernel, by decide +kernel, by omega, by decide +kernel⟩

theorem dist_sq (dx dy : Int) (hx : dx.natAbs ≤ 200) (hy : dy.natAbs ≤ 200) : 0 ≤ dx * dx + dy * dy ∧ dx * dx + dy * dy ≤ 80000 := by
  have h1 : dx * dx = ((dx.natAbs * dx.natAbs : Nat) : Int) := Int.natAbs_mul_self.symm
  have h2 : dy * dy = ((dy.natAbs * dy.natAbs : Nat) : Int) := Int.natAbs_mul_self.symm
  have h3 : dx.natAbs * dx.natAbs ≤ 200 * 200 := Nat.mul_le_mul hx hx
  have h4 : dy.natAbs * dy.natAbs ≤ 200 * 200 := Nat.mul_le_mul hy hy
  omega
theorem dist_le (dx dy : Int) (hx : dx.natAbs ≤ 200) (hy : dy.natAbs ≤ 200) : Le (distF dx dy) 17 := by
  obtain ⟨h1, h2⟩ := dist_sq dx dy hx hy
  unfold distF
  split
  · exact ⟨1031798784, false, 8388608, -27, by decide +kernel, by decide +kernel, by omega, .inr (by decide +kernel)⟩
  · generalize dx * dx + dy * dy = n at *
    refine val_le (ofI_val n (by omega)) (by omega) ?_ ?_
    · have e : (2 ^ (17 + 150 : Int).toNat : Nat) = 262144 * 2 ^ 149 := by decide +kernel
      rw [e]
      have : (0 : Int) < ((2 ^ 149 : Nat) : Int) := by decide +kernel
      generalize (2 ^ 149 : Nat) = M at *
      rw [Int.natCast_mul]
      exact Int.mul_lt_mul_of_pos_right (by omega) this
    · have : (0 : Int) ≤ n * ((2 ^ 149 : Nat) : Int) := Int.mul_nonneg h1 (by decide +kernel)
      have h3 : (0 : Int) < ((2 ^ (17 + 150 : Int).toNat : Nat) : Int) := by decide +kernel
      omega

theorem okA_parts {T S : F} (h : okA T S = true) : (Ge T (-10) ∧ Le T 20) ∧ Le S 0 := by
  unfold okA at h
  simp only [Bool.and_eq_true] at h
  obtain ⟨⟨⟨h1, h2⟩, h3⟩, h4⟩ := h
  have vT1 : Val (fb 981467136) ((2 ^ 139 : Nat) : Int) := ⟨981467136, false, 8388608, -33, by decide +kernel, by decide +kernel, by omega, by decide +kernel⟩
  have vT2 : Val (fb 1233125376) ((2 ^ 169 : Nat) : Int) := ⟨1233125376, false, 8388608, -3, by decide +kernel, by decide +kernel, by omega, by decide +kernel⟩
  have vS1 : Val (fb 897581056) ((2 ^ 129 : Nat) : Int) := ⟨897581056, false, 8388608, -43, by decide +kernel, by decide +kernel, by omega, by decide +kernel⟩
  obtain ⟨v, hv, v1, v2⟩ := between h1 h2 vT1 vT2
  obtain ⟨w, hw, w1, w2⟩ := between h3 h4 vS1 one_val
  have e1 : (2 ^ (-10 + 149 : Int).toNat : Nat) = 2 ^ 139 := rfl
  have e2 : (2 ^ (20 + 150 : Int).toNat : Nat) = 2 * 2 ^ 169 := by decide +kernel
  have e3 : (2 ^ (0 + 150 : Int).toNat : Nat) = 2 * 2 ^ 149 := by decide +kernel
  have p1 : (0 : Int) < ((2 ^ 139 : Nat) : Int) := by decide +kernel
  have p2 : (0 : Int) < ((2 ^ 169 : Nat) : Int) := by decide +kernel
  have p3 : (0 : Int) < ((2 ^ 149 : Nat) : Int) := by decide +kernel
  have p4 : (0 : Int) < ((2 ^ 129 : Nat) : Int) := by decide +kernel
  refine ⟨⟨val_ge hv (by omega) ?_, val_le hv (by omega) ?_ ?_⟩, val_le hw (by omega) ?_ ?_⟩
  · rw [e1]; exact v1
  · rw [e2, Int.natCast_mul]; generalize (2 ^ 169 : Nat) = M at *; omega
  · rw [e2, Int.natCast_mul]; generalize (2 ^ 169 : Nat) = M at *; generalize (2 ^ 139 : Nat) = M' at *; omega
  · rw [e3, Int.natCast_mul]; generalize (2 ^ 149 : Nat) = M at *; omega
  · rw [e3, Int.natCast_mul]; generalize (2 ^ 149 : Nat) = M at *; generalize (2 ^ 129 : Nat) = M' at *; omega

theorem raw_le {T S : F} (h : okA T S = true) {dx dy t : Int} (hx : dx.natAbs ≤ 200) (hy : dy.natAbs ≤ 200) (ht1 : 1 ≤ t) (ht2 : t ≤ 100000) : Le (rawF T S dx dy t) 40 := by
  obtain ⟨⟨hT1, hT2⟩, hS⟩ := okA_parts h
  have L1 := fmul_le (dist_le dx dy hx hy) hS (by omega)
  have g4 : Ge (fb 1082130432) 2 := ⟨1082130432, 8388608, -21, by decide +kernel, by decide +kernel, by omega, by decide, by decide +kernel⟩
  have l4 : Le (fb 1082130432) 2 := ⟨1082130432, false, 8388608, -21, by decide +kernel, by decide +kernel, by omega, .inr (by decide +kernel)⟩
  have G1 := fmul_ge g4 hT1 l4 hT2 (by omega) (by omega)
  have G2 := fmul_le l4 hT2 (by omega)
  have p3 : (0 : Int) < ((2 ^ 149 : Nat) : Int) := by decide +kernel
  have vt := ofI_val t (by omega)
  have gt : Ge (ofI t) 0 := by
    refine val_ge vt (by omega) ?_
    have e1 : (2 ^ (0 + 149 : Int).toNat : Nat) = 2 ^ 149 := rfl
    rw [e1]
    generalize ((2 ^ 149 : Nat) : Int) = M at *
    have := Int.mul_le_mul_of_nonneg_right ht1 (show 0 ≤ M by omega)
    omega
  have lt : Le (ofI t) 17 := by
    refine val_le vt (by omega) ?_ ?_
    · have e : (2 ^ (17 + 150 : Int).toNat : Nat) = 262144 * 2 ^ 149 := by decide +kernel
      rw [e, Int.natCast_mul]
      generalize ((2 ^ 149 : Nat) : Int) = M at *
      exact Int.mul_lt_mul_of_pos_right (by omega) p3
    · have : (0 : Int) ≤ t * ((2 ^ 149 : Nat) : Int) := Int.mul_nonneg (by omega) (by decide +kernel)
      have h3 : (0 : Int) < ((2 ^ (17 + 150 : Int).toNat : Nat) : Int) := by decide +kernel
      omega
  have G3 := fmul_ge G1 gt G2 lt (by omega) (by omega)
  exact (fdiv_le L1 G3 (by omega)).mono (by omega)

/-- The argument is a number, not below the least one. -/
theorem arg_val {T S : F} (h : okA T S = true) {dx dy t : Int} (hx : dx.natAbs ≤ 200) (hy : dy.natAbs ≤ 200) (ht1 : 1 ≤ t) (ht2 : t ≤ 100000) : ∃ v, Val (argF T S dx dy t) v ∧ ((2 ^ 89 : Nat) : Int) ≤ v := by
  obtain ⟨v, hv⟩ := (raw_le h hx hy ht1 ht2).val
  unfold argF
  rw [flt_val hv tiny_val]
  by_cases hlt : v < ((2 ^ 89 : Nat) : Int)
  · rw [if_pos (decide_eq_true hlt)]
    exact ⟨_, tiny_val, Int.le_refl _⟩
  · rw [if_neg (by rw [decide_eq_false hlt]; decide)]
    exact ⟨v, hv, by omega⟩

/-- A number between the least one and 1 in digits. -/
theorem nm_of {x : F} {v : Int} (hv : Val x v) (h1 : ((2 ^ 89 : Nat) : Int) ≤ v) (h2 : v ≤ ((2 ^ 149 : Nat) : Int)) : ∃ m e, Nm x m e ∧ -84 < e ∧ e ≤ -23 := by
  obtain ⟨b, s, m, e, rfl, hr, he, rfl⟩ := hv
  obtain ⟨_, hm, _⟩ := read_canon hr
  cases s
  · have hs : Ieee.signed false m (e + 149).toNat = ((m <<< (e + 149).toNat : Nat) : Int) := rfl
    rw [hs, Nat.shiftLeft_eq] at h1 h2
    have g1 : 2 ^ 89 ≤ m * 2 ^ (e + 149).toNat := by exact_mod_cast h1
    have g2 : m * 2 ^ (e + 149).toNat ≤ 2 ^ 149 := by exact_mod_cast h2
    rcases hm with ⟨rfl, h3⟩ | ⟨h3, h4⟩
    · exfalso
      rw [show (-149 + 149 : Int).toNat = 0 by rfl, Nat.pow_zero, Nat.mul_one] at g1
      exact absurd (Nat.lt_of_le_of_lt g1 h3) (by decide +kernel)
    · refine ⟨m, e, ⟨b, rfl, hr, h3, h4, he⟩, ?_, ?_⟩
      · rcases Int.lt_or_le (-84) e with h | h
        · exact h
        · exfalso
          have : m * 2 ^ (e + 149).toNat < 2 ^ 24 * 2 ^ 65 := by
            calc m * 2 ^ (e + 149).toNat ≤ m * 2 ^ 65 := Nat.mul_le_mul_left _ (Nat.pow_le_pow_right (by decide) (by omega))
              _ < 2 ^ 24 * 2 ^ 65 := Nat.mul_lt_mul_of_pos_right h4 (Nat.two_pow_pos _)
          exact absurd (Nat.lt_of_le_of_lt g1 this) (by decide +kernel)
      · rcases Int.lt_or_le (-23) e with h | h
        · exfalso
          have : 2 ^ 23 * 2 ^ 127 ≤ m * 2 ^ (e + 149).toNat := Nat.mul_le_mul h3 (Nat.pow_le_pow_right (by decide) (by omega))
          exact absurd (Nat.le_trans this g2) (by decide +kernel)
        · exact h
  · exfalso
    have hs : Ieee.signed true m (e + 149).toNat = -((m <<< (e + 149).toNat : Nat) : Int) := rfl
    rw [hs] at h1
    clear hs h2
    generalize m <<< (e + 149).toNat = M at h1
    have : (0 : Int) < ((2 ^ 89 : Nat) : Int) := by decide +kernel
    omega
theorem nm_mK {x : F} {m : Nat} {e : Int} (h : Nm x m e) (he : e ≤ -23) : ∀ k : Nat, k ≤ 60 → Nm (mK x k) m (e + k)
  | 0, _ => by simpa [mK] using h
  | k + 1, hk => by
    have := nm_double (nm_mK h he k (by omega)) (by omega)
    rw [show (some 1073741824 : F) = two by decide +kernel] at this
    rw [show e + ((k + 1 : Nat) : Int) = e + k + 1 by omega]
    exact this
theorem c75_val : Val (fb 1061158912) (3 * ((2 ^ 147 : Nat) : Int)) := ⟨1061158912, false, 12582912, -24, by decide +kernel, by decide +kernel, by omega, by decide +kernel⟩
/-- Sixty doublings are enough. -/
theorem mK_end {x : F} {v : Int} (hv : Val x v) (h1 : ((2 ^ 89 : Nat) : Int) ≤ v) (h2 : v ≤ ((2 ^ 149 : Nat) : Int)) : flt (mK x 60) (fb 1061158912) = false := by
  obtain ⟨m, e, hn, e1, e2⟩ := nm_of hv h1 h2
  obtain ⟨b, hb, hr, h3, h4, h5⟩ := nm_mK hn e2 60 (Nat.le_refl _)
  rw [hb]
  have hx := val_of hr h5
  rw [flt_val hx c75_val]
  refine decide_eq_false ?_
  have hs : Ieee.signed false m (e + ((60 : Nat) : Int) + 149).toNat = ((m <<< (e + ((60 : Nat) : Int) + 149).toNat : Nat) : Int) := rfl
  rw [hs, Nat.shiftLeft_eq]
  have : 2 ^ 23 * 2 ^ 126 ≤ m * 2 ^ (e + ((60 : Nat) : Int) + 149).toNat := Nat.mul_le_mul h3 (Nat.pow_le_pow_right (by decide) (by omega))
  have g : (3 * 2 ^ 147 : Nat) ≤ 2 ^ 23 * 2 ^ 126 := by decide +kernel
  have : (3 * 2 ^ 147 : Nat) ≤ m * 2 ^ (e + ((60 : Nat) : Int) + 149).toNat := Nat.le_trans g this
  have h6 : ((3 * 2 ^ 147 : Nat) : Int) ≤ ((m * 2 ^ (e + ((60 : Nat) : Int) + 149).toNat : Nat) : Int) := Int.ofNat_le.2 this
  rw [Int.natCast_mul] at h6
  have e3 : ((3 : Nat) : Int) = 3 := rfl
  rw [e3] at h6
  omega
theorem lnK_step {u : F} {n k : Nat} (h : flt (mK u k) (fb 1061158912) = true) : lnK u (n + 1) k = lnK u n (k + 1) := by
  show (if _ then _ else _) = _; rw [h]; rfl
theorem lnK_stop {u : F} {n k : Nat} (h : flt (mK u k) (fb 1061158912) = false) : lnK u n k = k := by
  cases n with
  | zero => rfl
  | succ n => show (if _ then _ else _) = _; rw [h]; rfl
theorem ofI_down (k : Nat) (h : k < 64) : fsub (ofI (-(k : Int))) one = ofI (-((k + 1 : Nat) : Int)) := by
  have : ∀ k : Fin 64, fsub (ofI (-(k.val : Int))) one = ofI (-((k.val + 1 : Nat) : Int)) := by decide +kernel
  exact this ⟨k, h⟩
theorem ofI_less (k : Nat) (h : k < 9) : fsub (ofI (8 - (k : Int))) one = ofI (8 - ((k + 1 : Nat) : Int)) := by
  have : ∀ k : Fin 9, fsub (ofI (8 - (k.val : Int))) one = ofI (8 - ((k.val + 1 : Nat) : Int)) := by decide +kernel
  exact this ⟨k, h⟩
end Go.Proofs.Ytonmdkhfongmhaa
