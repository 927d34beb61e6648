/- The median of slopes: sorted numbers, both sides, the law. -/
import Derived.Test.YtonmdkhfongmhaaTnb
import Derived.Test.YtonmdkhfongmhaaTln
import Derived.Test.YtonmdkhfongmhaaTM2
import Derived.Test.YtonmdkhfongmhaaRnd
import Derived.Test.YtonmdkhfongmhaaTmrg3
import Derived.Test.YtonmdkhfongmhaaTblk
import Derived.Test.YtonmdkhfongmhaaTsmo
import Derived.Deep.RegionHeld3
import Derived.Deep.AppendLies
import Derived.Deep.QuietTactic
import Derived.BigQuiet
import Derived.Test.YtonmdkhfongmhaaTM1
namespace Go.Proofs.Ytonmdkhfongmhaa
open Go.RowKit Go.Sort

theorem le_bound {x : F} {k : Int} (h : Le x k) : ∃ v, Val x v ∧ v.natAbs < 2 ^ (k + 150).toNat := by
  obtain ⟨b, s, m, e, rfl, hr, he, hm⟩ := h
  refine ⟨_, val_of hr he, ?_⟩
  rw [signed_abs]
  have := shl_lt (base := -149) he hm
  rw [show (e - -149 : Int) = e + 149 by omega, show (k + 1 - -149 : Int) = k + 150 by omega] at this
  exact this

/-- A quotient by a positive number is a number that can be sorted, where the dividend is 0 or not too small. -/
theorem fdiv_nb {a b : Nat} {s : Bool} {m n : Nat} {e f : Int} (ha : Ieee.single.read a = .number s m e) (hb : Ieee.single.read b = .number false n f) (hn : n ≠ 0) (hs : m = 0 → s = false)
    (h1 : m = 0 ∨ -100 ≤ lg m e - lg n f) : ∃ c, fdiv (some a) (some b) = some c ∧ NbOk c := by
  obtain ⟨_, hcm, _⟩ := read_canon ha
  have hf : Ieee.single.fractionBits = 23 := rfl
  generalize hmore : 25 + n.log2 - m.log2 = more
  have h : fdiv (some a) (some b) = some (Ieee.single.nearest s (2 * ((m <<< more) / n) + ((m <<< more) % n != 0).toNat) (e - f - more - 1)) := by
    show ((Ieee.single.read a).quotient (Ieee.single.fractionBits + 2) (Ieee.single.read b)).map Ieee.single.write = _
    rw [ha, hb, hf]
    simp only [Ieee.Datum.quotient]
    rw [if_neg hn]
    simp only [Option.map_some, Bool.xor_false]
    rw [show 23 + 2 + n.log2 - m.log2 = more from hmore]
    rfl
  obtain ⟨r, hr, q1, q2⟩ := nearest_opp s (2 * ((m <<< more) / n) + ((m <<< more) % n != 0).toNat) (e - f - more - 1)
  refine ⟨_, h, s, r, q1, hr, ?_⟩
  rintro ⟨rfl, rfl⟩
  have hm : m ≠ 0 := fun h => by have := hs h; cases this
  have h1 := h1.resolve_left hm
  have hlm : m.log2 ≤ 23 := by
    have : m < 2 ^ 24 := by rcases hcm with ⟨_, h⟩ | ⟨_, h⟩ <;> omega
    have := (Nat.log2_lt hm).2 this
    omega
  have hge : 2 ^ m.log2 ≤ m := Nat.log2_self_le hm
  have hlt : n < 2 ^ (n.log2 + 1) := Nat.lt_log2_self
  have hq : 2 ^ 24 ≤ (m <<< more) / n := by
    rw [Nat.le_div_iff_mul_le (Nat.pos_of_ne_zero hn), Nat.shiftLeft_eq]
    calc 2 ^ 24 * n ≤ 2 ^ 24 * 2 ^ (n.log2 + 1) := Nat.mul_le_mul_left _ (Nat.le_of_lt hlt)
      _ = 2 ^ m.log2 * 2 ^ more := by rw [← Nat.pow_add, ← Nat.pow_add]; congr 1; omega
      _ ≤ m * 2 ^ more := Nat.mul_le_mul_right _ hge
  generalize (m <<< more) / n = q at hq q1 q2
  generalize ((m <<< more) % n != 0).toNat = r' at q1 q2
  have hz : 2 * q + r' ≠ 0 := by omega
  have l1 : 25 ≤ (2 * q + r').log2 := (Nat.le_log2 hz).2 (by omega)
  unfold lg at h1
  rcases Int.lt_or_le 126 (lg (2 * q + r') (e - f - more - 1)) with hL | hL
  · have hb := (nearest_big (2 * q + r') (e - f - more - 1) hz (by omega)).1
    rw [show Ieee.single.nearest false (2 * q + r') (e - f - more - 1) = Ieee.single.word (!true) 0 from q2] at hb
    exact absurd hb (by decide)
  · obtain ⟨m', e', k1, _, _, k4⟩ := nearest_data true (2 * q + r') (e - f - more - 1) hz hL
    have k5 := (k4 (by unfold lg; omega)).1
    rw [q1, show Ieee.single.read (Ieee.single.word true 0) = .number true 0 (-149) by decide +kernel] at k1
    injection k1 with _ h5 _
    exact k5 h5.symm

theorem div16 {b : Nat} {s : Bool} {m : Nat} {e : Int} (hr : Ieee.single.read b = .number s m e) (h1 : 8388608 ≤ m) (h2 : m < 16777216) (he : -100 ≤ e) (he2 : e ≤ 104) :
    ∃ c, fdiv (some b) (some 1098907648) = some c ∧ Ieee.single.read c = .number s m (e - 4) := by
  have hlog : m.log2 = 23 := by
    have a := (Nat.le_log2 (k := 23) (by omega : m ≠ 0)).2 h1
    have b := (Nat.log2_lt (k := 24) (by omega : m ≠ 0)).2 h2
    omega
  refine ⟨Ieee.single.nearest s m (e - 4), ?_, read_nearest _ (by omega) (by omega) (.inr ⟨h1, h2⟩)⟩
  have hf : Ieee.single.fractionBits = 23 := rfl
  show ((Ieee.single.read b).quotient (Ieee.single.fractionBits + 2) (Ieee.single.read 1098907648)).map Ieee.single.write = _
  rw [hr, show Ieee.single.read 1098907648 = .number false 8388608 (-19) by decide +kernel, hf]
  simp only [Ieee.Datum.quotient]
  rw [if_neg (by decide)]
  have hl2 : (8388608 : Nat).log2 = 23 := by decide +kernel
  rw [hl2, hlog]
  simp only [Option.map_some, Ieee.Format.write, Option.some.injEq, Bool.xor_false]
  have e1 : (m <<< (23 + 2 + 23 - 23)) / 8388608 = m * 4 := by rw [Nat.shiftLeft_eq]; omega
  have e2 : (m <<< (23 + 2 + 23 - 23)) % 8388608 = 0 := by rw [Nat.shiftLeft_eq]; omega
  have e3 : 2 * (m * 4) + ((0 : Nat) != 0).toNat = m <<< 3 := by rw [Nat.shiftLeft_eq, show ((0 : Nat) != 0).toNat = 0 from rfl]; omega
  have e4 : e - -19 - ((23 + 2 + 23 - 23 : Nat) : Int) - 1 = e - 4 - ((3 : Nat) : Int) := by omega
  rw [e1, e2, e3, e4, nearest_shl s m 3 (e - 4)]
theorem lev_val {l : Int} (h : -32768 ≤ l ∧ l ≤ 32767) : Val (levF l) (l * ((2 ^ 145 : Nat) : Int)) := by
  by_cases h0 : l = 0
  · subst h0
    rw [show levF 0 = some 0 by decide +kernel, Int.zero_mul]
    exact val_zero
  · obtain ⟨b, j, hb, hr, hj⟩ := ofI_read l (by omega)
    obtain ⟨he, hm, _⟩ := read_canon hr
    rw [Nat.shiftLeft_eq] at hm
    have hn1 : 1 ≤ l.natAbs := by omega
    have hn2 : l.natAbs < 2 ^ 16 := by omega
    rcases hm with ⟨e1, h3⟩ | ⟨h3, h4⟩
    · exfalso
      have : j = 149 := by omega
      subst this
      have : 1 * 2 ^ 149 ≤ l.natAbs * 2 ^ 149 := Nat.mul_le_mul_right _ hn1
      exact absurd (Nat.lt_of_le_of_lt this h3) (by decide +kernel)
    · have hj2 : j ≤ 23 := by
        rcases Nat.lt_or_ge j 24 with h | h
        · omega
        · exfalso
          have : 1 * 2 ^ 24 ≤ l.natAbs * 2 ^ j := Nat.mul_le_mul hn1 (Nat.pow_le_pow_right (by decide) h)
          omega
      obtain ⟨c, k1, k2⟩ := div16 hr (by rw [Nat.shiftLeft_eq]; exact h3) (by rw [Nat.shiftLeft_eq]; exact h4) (by omega) (by omega)
      refine ⟨c, _, _, _, by unfold levF; rw [hb]; exact k1, k2, by omega, ?_⟩
      unfold Ieee.signed
      rw [← Nat.shiftLeft_add, show j + (0 - (j : Int) - 4 + 149).toNat = 145 by omega, Nat.shiftLeft_eq]
      generalize (2 ^ 145 : Nat) = M
      by_cases hneg : l < 0
      · rw [if_pos (decide_eq_true hneg), Int.natCast_mul, show ((l.natAbs : Nat) : Int) = -l by omega, Int.neg_mul, Int.neg_neg]
      · rw [if_neg (by simpa using hneg), Int.natCast_mul, show ((l.natAbs : Nat) : Int) = l by omega]

theorem fsub_fit (x y : F) : Fits (fsub x y) := by
  intro b h
  cases x with
  | none => cases h
  | some p => cases y with
    | none => cases h
    | some q =>
      have h' : ((Ieee.single.read p).sum (Ieee.single.read q).opposite).map Ieee.single.write = some b := h
      cases hd : (Ieee.single.read p).sum (Ieee.single.read q).opposite with
      | none => rw [hd] at h'; cases h'
      | some d => rw [hd] at h'; cases h'; exact write_fits d (sum_num' hd)
def lnE (e : Rd) : F := lnH (ofI e.t)
def upB (a b : Rd) : Bool := fgt (lnE b) (lnE a)
def dxF (a b : Rd) : F := fsub (lnE b) (lnE a)
def dyF (a b : Rd) : F := fsub (levF b.l) (levF a.l)
def slF (a b : Rd) : F := fdiv (dyF a b) (dxF a b)
def Good (e : Rd) : Prop := (1 ≤ e.t ∧ e.t ≤ 100000) ∧ (-32768 ≤ e.l ∧ e.l ≤ 32767)
theorem lnE_ok {e : Rd} (h : Good e) : Le (lnE e) 70 := lnH_ok h.1.1 h.1.2
theorem rz_pos {z : Int} (h : 0 < z) : 0 < rz 0 z := by
  have h1 : rz 0 1 ≤ rz 0 z := rz_mono 0 (by omega)
  have h2 : rz 0 1 = 1 := by
    unfold rz
    rw [if_neg (by decide)]
    have := rnd_exact 0 1 0 (by decide) (Nat.le_refl _)
    rw [Nat.pow_zero, Nat.mul_one] at this
    rw [show (1 : Int).natAbs = 1 from rfl, this]; rfl
  omega
theorem rz_nonpos {z : Int} (h : z ≤ 0) : rz 0 z ≤ 0 := by
  have h1 : rz 0 z ≤ rz 0 0 := rz_mono 0 h
  have h2 : rz 0 0 = 0 := by
    unfold rz
    rw [if_neg (by decide)]
    rw [show (0 : Int).natAbs = 0 from rfl, rnd_zero 0]; rfl
  omega
theorem log_lt {n k : Nat} (h : n < 2 ^ (k + 1)) : n.log2 ≤ k := by
  by_cases h0 : n = 0
  · subst h0; simp
  · have := (Nat.log2_lt h0).2 h
    omega
theorem dx_val {a b : Rd} (ha : Good a) (hb : Good b) : ∃ v w, Val (lnE b) v ∧ Val (lnE a) w ∧ Val (dxF a b) (rz 0 (v - w)) := by
  obtain ⟨v, hv, hv2⟩ := le_bound (lnE_ok hb)
  obtain ⟨w, hw, hw2⟩ := le_bound (lnE_ok ha)
  refine ⟨v, w, hv, hw, sub_val hv hw ?_⟩
  refine Nat.le_trans (log_lt (k := 220) ?_) (by decide)
  have e : (70 + 150 : Int).toNat = 220 := rfl
  rw [e] at hv2 hw2
  rw [Nat.pow_succ]
  generalize (2 ^ 220 : Nat) = M at *
  omega
theorem dx_up {a b : Rd} (ha : Good a) (hb : Good b) : fgt (dxF a b) (some 0) = upB a b := by
  obtain ⟨v, w, hv, hw, hd⟩ := dx_val ha hb
  unfold upB
  rw [fgt_val hd val_zero, fgt_val hv hw]
  refine decide_eq_decide.2 ⟨fun h => ?_, fun h => rz_pos (by omega)⟩
  rcases Int.lt_or_le w v with h2 | h2
  · exact h2
  · have := rz_nonpos (z := v - w) (by omega)
    omega
theorem dy_val {a b : Rd} (ha : Good a) (hb : Good b) : Val (dyF a b) ((b.l - a.l) * ((2 ^ 145 : Nat) : Int)) := by
  have h := sub_val (lev_val hb.2) (lev_val ha.2) ?_
  · rw [← Int.sub_mul] at h
    have e : rz 0 ((b.l - a.l) * ((2 ^ 145 : Nat) : Int)) = (b.l - a.l) * ((2 ^ 145 : Nat) : Int) := by
      have h1 := ha.2
      have h2 := hb.2
      have h3 := rnd_exact 0 (b.l - a.l).natAbs 145 (by omega) (Nat.zero_le _)
      have h4 : ((b.l - a.l) * ((2 ^ 145 : Nat) : Int)).natAbs = (b.l - a.l).natAbs * 2 ^ 145 := by rw [Int.natAbs_mul, Int.natAbs_natCast]
      have p : (0 : Int) < ((2 ^ 145 : Nat) : Int) := by decide +kernel
      have h5 := rz_abs 0 ((b.l - a.l) * ((2 ^ 145 : Nat) : Int))
      rw [h4, h3, Nat.sub_zero, ← h4] at h5
      have h6 : rz 0 ((b.l - a.l) * ((2 ^ 145 : Nat) : Int)) < 0 ↔ (b.l - a.l) * ((2 ^ 145 : Nat) : Int) < 0 := by
        unfold rz
        split
        · rename_i hneg
          rw [h4, h3, Nat.sub_zero, ← h4]
          constructor <;> intro _ <;> omega
        · rename_i hneg
          constructor
          · intro h7
            have := Int.natCast_nonneg (rnd 0 ((b.l - a.l) * ((2 ^ 145 : Nat) : Int)).natAbs)
            omega
          · intro h7; exact absurd h7 hneg
      generalize (b.l - a.l) * ((2 ^ 145 : Nat) : Int) = Z at *
      generalize rz 0 Z = Y at *
      omega
    rw [e] at h
    exact h
  · have h1 := ha.2
    have h2 := hb.2
    rw [← Int.sub_mul, Int.natAbs_mul, Int.natAbs_natCast]
    refine Nat.le_trans (log_lt (k := 162) ?_) (by decide)
    have : (b.l - a.l).natAbs < 2 ^ 17 := by omega
    calc (b.l - a.l).natAbs * 2 ^ 145 < 2 ^ 17 * 2 ^ 145 := Nat.mul_lt_mul_of_pos_right this (Nat.two_pow_pos _)
      _ ≤ 2 ^ (162 + 1) := by decide +kernel
theorem dy_nz {a b : Rd} (ha : Good a) (hb : Good b) : dyF a b ≠ some 2147483648 :=
  fsub_nz (by obtain ⟨c, s, m, e, h1, h2, h3, h4, h5⟩ := lev_fz hb.2; exact ⟨c, s, m, e, h1, h2, h3, h4.imp id (by omega), h5⟩) (by
    obtain ⟨c, s, m, e, h1, h2, h3, h4, _⟩ := lev_fz ha.2
    exact ⟨c, s, m, e, h1, h2, h3, h4.imp id (by omega)⟩)
theorem minus_zero (y : Nat) (h1 : y < 4294967296) (h2 : y % 2147483648 = 0) (h3 : y / 2147483648 % 2 = 1) : y = 2147483648 := by omega
theorem sl_nb {a b : Rd} (ha : Good a) (hb : Good b) (h : upB a b = true) : ∃ x : NB, slF a b = some x.1 := by
  have hnz := dy_nz ha hb
  obtain ⟨y, s, m, e, hy, hry, hye, hyv⟩ := dy_val ha hb
  have hle : Le (dxF a b) 72 := sub_to 72 (lnE_ok hb) (lnE_ok ha) (by omega) (by omega) (by omega) (by omega)
  obtain ⟨x, t, n, f, hx, hrx, hxe, hxm⟩ := hle
  have hpos : t = false ∧ n ≠ 0 := by
    have hpos := dx_up ha hb
    rw [h, hx, fgt_val (val_of hrx hxe) val_zero] at hpos
    have hpos := of_decide_eq_true hpos
    unfold Ieee.signed at hpos
    generalize hM : n <<< (f + 149).toNat = M at hpos
    refine ⟨?_, ?_⟩
    · cases t
      · rfl
      · exfalso
        rw [if_pos rfl] at hpos
        omega
    · rintro rfl
      rw [Nat.zero_shiftLeft] at hM
      subst hM
      cases t <;> exact absurd hpos (by decide)
  obtain ⟨rfl, hn⟩ := hpos
  have hxm := hxm.resolve_left hn
  have hz : m = 0 → s = false := by
    rintro rfl
    cases s
    · rfl
    · exfalso
      apply hnz
      rw [hy]
      refine congrArg some ?_
      obtain ⟨_, hc2, hc3, hc4⟩ := read_canon hry
      have he149 : e = -149 := by rcases hc2 with ⟨h, _⟩ | ⟨h, _⟩ <;> omega
      subst he149
      have hsg := read_sign hry
      have hlt := fsub_fit _ _ _ hy
      have e0 : (-149 + 149 : Int).toNat = 0 := rfl
      rw [e0] at hc3
      have h5 : y / 2147483648 % 2 = 1 := eq_of_beq hsg
      exact minus_zero y hlt (by rw [← hc3]) h5
  have hm : m = 0 ∨ -100 ≤ lg m e - lg n f := by
    by_cases h0 : m = 0
    · exact .inl h0
    · refine .inr ?_
      have ha2 := signed_abs s m (e + 149).toNat
      rw [← hyv, Int.natAbs_mul, Int.natAbs_natCast] at ha2
      have hne : m <<< (e + 149).toNat ≠ 0 := by rw [Nat.shiftLeft_eq]; exact Nat.mul_ne_zero h0 (Nat.pos_iff_ne_zero.1 (Nat.two_pow_pos _))
      have h1 : 1 ≤ (b.l - a.l).natAbs := by
        rcases Nat.eq_zero_or_pos (b.l - a.l).natAbs with h3 | h3
        · rw [h3, Nat.zero_mul] at ha2; exact absurd ha2.symm hne
        · exact h3
      have h2 : 2 ^ 145 ≤ m <<< (e + 149).toNat := by
        rw [← ha2]
        have := Nat.mul_le_mul_right (2 ^ 145) h1
        rwa [Nat.one_mul] at this
      have h3 := (Nat.le_log2 hne).2 h2
      rw [log2_shl m _ h0] at h3
      unfold lg at *
      omega
  obtain ⟨c, hc, hok⟩ := fdiv_nb hry hrx hn hz hm
  exact ⟨⟨c, hok⟩, by unfold slF; rw [hy, hx]; exact hc⟩

open Classical in
/-- The slope of two readings, as a number that can be sorted. -/
noncomputable def slN (a b : Rd) : NB := if h : ∃ x : NB, slF a b = some x.1 then Classical.choose h else default
theorem slN_of {a b : Rd} (ha : Good a) (hb : Good b) (h : upB a b = true) : slF a b = some (slN a b).1 := by
  have hx := sl_nb ha hb h
  unfold slN
  rw [dif_pos hx]
  exact Classical.choose_spec hx
def rAt (l : List Rd) (i : Nat) : Rd := l.getD i ⟨0, 0⟩
theorem rAt_of {l : List Rd} {i : Nat} {e : Rd} (h : l[i]? = some e) : rAt l i = e := by unfold rAt; simp [List.getD, h]
/-- The slopes from a reading to those behind it, up to some place. -/
noncomputable def rowL (l : List Rd) (i : Nat) : Nat → List NB
  | 0 => []
  | k + 1 => rowL l i k ++ if i < k ∧ upB (rAt l i) (rAt l k) = true then [slN (rAt l i) (rAt l k)] else []
noncomputable def allL (l : List Rd) : Nat → List NB
  | 0 => []
  | i + 1 => allL l i ++ rowL l i l.length
theorem rowL_low (l : List Rd) (i : Nat) : ∀ k, k ≤ i + 1 → rowL l i k = []
  | 0, _ => rfl
  | k + 1, h => by
    show rowL l i k ++ _ = _
    rw [rowL_low l i k (by omega), if_neg (by omega)]
    rfl
theorem rowL_yes {l : List Rd} {i k : Nat} (h1 : i < k) (h2 : upB (rAt l i) (rAt l k) = true) : rowL l i (k + 1) = rowL l i k ++ [slN (rAt l i) (rAt l k)] := by
  show rowL l i k ++ _ = _
  rw [if_pos ⟨h1, h2⟩]
theorem rowL_no {l : List Rd} {i k : Nat} (h2 : upB (rAt l i) (rAt l k) = false) : rowL l i (k + 1) = rowL l i k := by
  show rowL l i k ++ _ = _
  rw [if_neg (by rw [h2]; simp), List.append_nil]
theorem rowL_len (l : List Rd) (i : Nat) : ∀ k, (rowL l i k).length ≤ k
  | 0 => Nat.le_refl _
  | k + 1 => by
    show (rowL l i k ++ _).length ≤ _
    have := rowL_len l i k
    rw [List.length_append]
    split <;> simp <;> omega
theorem allL_len (l : List Rd) : ∀ i, (allL l i).length ≤ l.length * i
  | 0 => Nat.zero_le _
  | i + 1 => by
    show (allL l i ++ _).length ≤ _
    have h1 := allL_len l i
    have h2 := rowL_len l i l.length
    rw [List.length_append, Nat.mul_succ]
    omega
/-- All slopes, sorted. -/
noncomputable def srtL (l : List Rd) : List NB := (allL l l.length).mergeSort (fun x y => !ltN y x)
theorem srt_of {l : List Rd} {d : Array NB} (h1 : PermIn 0 (allL l l.length).toArray.size (allL l l.length).toArray d) (h2 : SortedIn ltN 0 (allL l l.length).toArray.size d) : d.toList = srtL l := by
  have := sorted_unique_holds (lt := ltN) swo_ltN anti_ltN _ d h1 h2
  exact this
def medV (d : List NB) : F := if d.length % 2 = 1 then some (d.getD (d.length / 2) default).1 else fdiv (fadd (some (d.getD (d.length / 2 - 1) default).1) (some (d.getD (d.length / 2) default).1)) two
noncomputable def medF (l : List Rd) : F := if okR l = true then (if (allL l l.length).length = 0 then some 0 else medV (srtL l)) else some 0
noncomputable def medC (l : List Rd) : Int := if okR l = true then (if (allL l l.length).length = 0 then 6 else 0) else 1
theorem good_of {l : List Rd} (h : okR l = true) (hr : ∀ e ∈ l, e.Rng) : ∀ e ∈ l, Good e := by
  intro e he
  unfold okR at h
  rw [Bool.and_eq_true] at h
  obtain ⟨j, hj, rfl⟩ := List.getElem_of_mem he
  have := okN_pos h.2 hj
  rw [timeF_at (List.getElem?_eq_getElem hj)] at this
  exact ⟨this, (hr _ he).2⟩
end Go.Proofs.Ytonmdkhfongmhaa

namespace Go.Proofs.Ytonmdkhfongmhaa
open Go.RowKit Go.Lib Go.Sort

theorem permIn_wide {d e : Array NB} {a b N : Nat} (h : PermIn a b d e) (hb : b ≤ N) (hN : N ≤ d.size) : PermIn 0 N d e := permIn_mono d e a b 0 N (Nat.zero_le _) hb hN h

set_option maxHeartbeats 8000000 in
set_option maxRecDepth 1000000 in
theorem stable_any (blk off cap N : Nat) (d : Array NB) (w : World) (hH : Holds encN w blk off d) (hN : d.size = N) (hsz : N < 1152921504606846976) :
    Calls Try.prog 92 #[.slice (some ⟨blk, off, none⟩) N cap, .int .i64 N, .func (.func 56) #[] #[]] w
      (RetPut w blk off N (fun d' => PermIn 0 N d d' ∧ SortedIn ltN 0 N d')) := by
  have HST : Hid (w = (putRow encN w blk off d).drewN 0) := (putRow_self encN w blk off d hH).symm
  have HH := Lib.hid hH
  have HN := Lib.hid hN
  clear hH hN
  go_enter Try.func92, Try.ntmps92
  go_wp2_with fail
  go_loopg [7, 8] N (fun g va vb wr => ∃ (q k : Nat) (dk : Array NB), va = .int .i64 (20 * q : Nat) ∧ vb = .int .i64 (20 * q + 20 : Nat) ∧ 20 * q ≤ N ∧ N - 20 * q ≤ g ∧ dk.size = d.size ∧ Hid (PermIn 0 N d dk ∧ Bl ltN 20 (20 * q) dk) ∧ wr = (putRow encN w blk off dk).drewN k)
  case atStart => exact ⟨0, 0, d, rfl, rfl, by omega, by omega, rfl, (show _ ∧ _ from ⟨permIn_refl _ _ _, Bl.zero _ _⟩), HST.out⟩
  case round =>
    obtain ⟨q, k, dk, rfl, rfl, hq, hg, hsk, HI, rfl⟩ := hrel
    obtain ⟨a, ha⟩ : ∃ a, a = 20 * q := ⟨_, rfl⟩
    obtain ⟨b, hb⟩ : ∃ b, b = a + 20 := ⟨_, rfl⟩
    rw [← ha, ← hb]
    rw [← ha] at hq hg HI
    have HA := Lib.hid ha
    have HB := Lib.hid hb
    clear ha hb
    by_cases hlt : b ≤ N
    · have hz : (b : Int) ≤ (N : Int) := by omega
      have e20 : IntKind.i64.wrap ((b : Int) + 20) = ((b + 20 : Nat) : Int) := by rw [IntKind.wrap_i64]; omega
      have hab : a ≤ b := by have := HB.out; omega
      go_wp2_with fail
      refine (insF_at blk off cap N a b d dk k w HH.out hsk HN.out hab hlt (by omega)).mono ?_
      rintro e w1 ⟨rfl, d', k', hw1, hsz', hp, hs⟩
      have HP := Lib.hid hp
      have HS := Lib.hid hs
      have HW := Lib.hid hw1
      have hs' : d'.size = d.size := hsz'.trans HN.out.symm
      have HS' := Lib.hid hs'
      clear hp hs hw1 hsz' hs'
      go_wp2_with fail
      go_roundg (N - b)
      case measure => have := HB.out; omega
      case rel =>
        have h1 := HA.out
        have h2 := HB.out
        have h3 := HN.out
        refine ⟨q + 1, k', d', by first | rfl | (congr 1; omega) | go_num, by first | rfl | (congr 1; omega) | go_num, by omega, by omega, HS'.out, (show _ ∧ _ from ⟨permIn_trans _ _ _ _ _ HI.out.1 (permIn_wide HP.out hlt (by omega)), ?_⟩), HW.out⟩
        rw [show 20 * (q + 1) = b by omega]
        exact Bl.ext (by omega) (by omega) HI.out.2 HP.out HS.out
    · have hz : ¬ (b : Int) ≤ (N : Int) := by omega
      go_wp2_with fail
      refine (insF_at blk off cap N a N d dk k w HH.out hsk HN.out hq (Nat.le_refl _) (by omega)).mono ?_
      rintro e w1 ⟨rfl, d1, k1, hw1, hsz', hp, hs⟩
      have hp0 : PermIn 0 N d d1 := permIn_trans _ _ _ _ _ HI.out.1 (permIn_wide hp (Nat.le_refl _) (by have := HN.out; omega))
      have hbl : Bl ltN 20 N d1 := Bl.ext (by omega) HA.out HI.out.2 hp hs
      have HP := Lib.hid hp0
      have HBL := Lib.hid hbl
      have HW := Lib.hid hw1
      have hs' : d1.size = d.size := hsz'.trans HN.out.symm
      clear hp hs hw1 hsz' hp0 hbl HI HA HB
      go_wp2_with fail
      go_loopg [6] N (fun g vs wr => ∃ (bs k : Nat) (dk : Array NB), vs = .int .i64 bs ∧ 20 ≤ bs ∧ bs ≤ 2 * N + 40 ∧ N - bs ≤ g ∧ dk.size = d.size ∧ Hid (PermIn 0 N d dk ∧ Bl ltN bs N dk) ∧ wr = (putRow encN w blk off dk).drewN k)
      case atStart => exact ⟨20, k1, d1, rfl, by omega, by omega, by omega, hs', (show _ ∧ _ from ⟨HP.out, HBL.out⟩), HW.out⟩
      case round =>
        obtain ⟨bs, k2, d2, rfl, hb1, hb2, hg2, hs2, HI, rfl⟩ := hrel
        clear HP HBL HW hs'
        by_cases hlt2 : bs < N
        · have hz2 : (bs : Int) < (N : Int) := by omega
          obtain ⟨c, hc⟩ : ∃ c, c = 2 * bs := ⟨_, rfl⟩
          have e1 : (2 : Int) * (bs : Int) = (c : Int) := by omega
          have hcb : c < 2305843009213693952 := by omega
          have HC := Lib.hid hc
          have hbs0 : 0 < bs := by omega
          clear hc
          go_wp2_with fail
          go_loopg [7, 8] N (fun g va vb wr => ∃ (q a k : Nat) (dk : Array NB), va = .int .i64 a ∧ vb = .int .i64 (a + c : Nat) ∧ Hid (a = bs * 2 * q) ∧ a ≤ N ∧ N - a ≤ g ∧ dk.size = d.size ∧ Hid (PermIn 0 N d dk ∧ Mx ltN bs a N dk) ∧ wr = (putRow encN w blk off dk).drewN k)
          case atStart => exact ⟨0, 0, k2, d2, rfl, by first | rfl | (congr 1; omega), (show _ = _ by omega), by omega, by omega, hs2, (show _ ∧ _ from ⟨HI.out.1, Mx.start HI.out.2⟩), rfl⟩
          case round =>
            obtain ⟨q3, a3, k3, d3, rfl, rfl, HQ, ha3, hg3, hs3, HJ, rfl⟩ := hrel
            clear HI
            obtain ⟨b3, hb3⟩ : ∃ b3, b3 = a3 + c := ⟨_, rfl⟩
            obtain ⟨m3, hm3⟩ : ∃ m3, m3 = a3 + bs := ⟨_, rfl⟩
            rw [← hb3]
            have e2 : (a3 : Int) + (bs : Int) = (m3 : Int) := by omega
            have HB3 := Lib.hid hb3
            have HM3 := Lib.hid hm3
            have hm3b : m3 < 4611686018427387904 := by omega
            have hb3b : b3 < 4611686018427387904 := by omega
            clear hb3 hm3
            by_cases hlt3 : b3 ≤ N
            · have hz3 : (b3 : Int) ≤ (N : Int) := by omega
              obtain ⟨f3, hf3⟩ : ∃ f3, f3 = b3 + c := ⟨_, rfl⟩
              have e3 : (b3 : Int) + (c : Int) = (f3 : Int) := by omega
              have hf3b : f3 < 9223372036854775808 := by omega
              have HF3 := Lib.hid hf3
              clear hf3
              go_wp2_with fail
              refine (symMerge_all blk off cap N d w HH.out HN.out (by omega) (b3 - a3 + 1) a3 m3 b3 d3 k3 (by omega) (by have := HM3.out; omega) (by have := HM3.out; have := HB3.out; have := HC.out; omega) hlt3 hs3 (by have h1 := HM3.out; exact Mx.left HQ.out HJ.out.2 (by omega) (by have := HB3.out; have := HC.out; omega)) (by have h1 := HM3.out; rw [h1]; exact Mx.right HQ.out HJ.out.2 (by have := HB3.out; have := HC.out; omega) hlt3)).mono ?_
              rintro e w4 ⟨rfl, d4, k4, hw4, hsz4, hp4, hs4⟩
              have HP4 := Lib.hid hp4
              have HS4 := Lib.hid hs4
              have HW4 := Lib.hid hw4
              have HZ4 : Hid (d4.size = d.size) := hsz4.trans HN.out.symm
              clear hp4 hs4 hw4 hsz4
              go_wp2_with fail
              go_roundg (N - b3)
              case measure => have := HB3.out; have := HC.out; omega
              case rel =>
                have h1 := HB3.out
                have h2 := HC.out
                have h3 := HN.out
                refine ⟨q3 + 1, b3, k4, d4, rfl, by rw [HF3.out], (show _ = _ from ?_), by omega, by omega, HZ4.out, (show _ ∧ _ from ⟨permIn_trans _ _ _ _ _ HJ.out.1 (permIn_wide HP4.out hlt3 (by omega)), Mx.step hbs0 HQ.out HJ.out.2 HP4.out HS4.out (by omega)⟩), HW4.out⟩
                rw [Nat.mul_add, Nat.mul_one, ← HQ.out]; omega
            · have hz3 : ¬ (b3 : Int) ≤ (N : Int) := by omega
              have e4 : (bs : Int) * 2 = (c : Int) := by omega
              by_cases hlt4 : m3 < N
              · have hz4 : (m3 : Int) < (N : Int) := by omega
                go_wp2_with fail
                refine (symMerge_all blk off cap N d w HH.out HN.out (by omega) (N - a3 + 1) a3 m3 N d3 k3 (by omega) (by have := HM3.out; omega) hlt4 (Nat.le_refl _) hs3 (by have h1 := HM3.out; exact Mx.left HQ.out HJ.out.2 (by omega) (by omega)) (by have h1 := HM3.out; rw [h1]; exact Mx.right HQ.out HJ.out.2 (by have := HB3.out; have := HC.out; omega) (Nat.le_refl _))).mono ?_
                rintro e w4 ⟨rfl, d4, k4, hw4, hsz4, hp4, hs4⟩
                have HP4 := Lib.hid hp4
                have HS4 := Lib.hid hs4
                have HW4 := Lib.hid hw4
                have HZ4 : Hid (d4.size = d.size) := hsz4.trans HN.out.symm
                clear hp4 hs4 hw4 hsz4
                go_wp2_with fail
                go_roundg (N - c)
                case measure => have := HC.out; omega
                case rel =>
                  have h2 := HC.out
                  have h3 := HN.out
                  refine ⟨c, k4, d4, rfl, by omega, by omega, by omega, HZ4.out, (show _ ∧ _ from ⟨permIn_trans _ _ _ _ _ HJ.out.1 (permIn_wide HP4.out (Nat.le_refl _) (by omega)), ?_⟩), HW4.out⟩
                  rw [show c = bs * 2 by omega]
                  exact Mx.done hbs0 HQ.out HJ.out.2 HP4.out HS4.out
              · have hz4 : ¬ (m3 : Int) < (N : Int) := by omega
                go_wp2_with fail
                go_roundg (N - c)
                case measure => have := HC.out; omega
                case rel =>
                  have h2 := HC.out
                  have h3 := HM3.out
                  refine ⟨c, k3, d3, rfl, by omega, by omega, by omega, hs3, (show _ ∧ _ from ⟨HJ.out.1, ?_⟩), rfl⟩
                  rw [show c = bs * 2 by omega]
                  exact Mx.rest hbs0 HQ.out HJ.out.2 (by omega)
        · have hz2 : ¬ (bs : Int) < (N : Int) := by omega
          go_wp2_with fail
          go_end0
          exact ⟨rfl, d2, k2, rfl, hs2.trans HN.out, HI.out.1, Bl.sorted HI.out.2 (by omega)⟩
end Go.Proofs.Ytonmdkhfongmhaa

namespace Go.Proofs.Ytonmdkhfongmhaa
open Go.RowKit Go.Lib Go.Sort

def nums (d : Array NB) : List Value := d.toList.map encN
theorem nums_len (d : Array NB) : (nums d).length = d.size := by simp [nums]
theorem nums_set (d : Array NB) (i : Nat) (x : NB) : (nums d).set i (.float .f32 x.1) = nums (d.setIfInBounds i x) := by
  unfold nums
  rw [Array.toList_setIfInBounds, List.map_set]; rfl
theorem nums_get {d : Array NB} {i : Nat} (h : i < d.size) : (nums d)[i]? = some (.float .f32 d[i]!.1) := by
  unfold nums
  rw [List.getElem?_map]
  have : d.toList[i]? = some d[i]! := by
    rw [Array.getElem?_toList, Array.getElem?_eq_getElem h]
    simp [h]
  rw [this]; rfl
theorem set_get (d : Array NB) (k : Nat) (x : NB) (hk : k < d.size) (p : Nat) : (d.setIfInBounds k x)[p]! = if p = k then x else d[p]! := by
  by_cases e : p = k
  · subst e
    rw [if_pos rfl]
    simp [hk]
  · rw [if_neg e]
    simp only [getElem!_def]
    rw [Array.getElem?_setIfInBounds_ne (fun h => e h.symm)]
/-- So far moved. -/
def Sh (d0 dk : Array NB) (k i : Nat) : Prop := dk.size = d0.size ∧ ∀ p, dk[p]! = if k < p ∧ p ≤ i then d0[p - 1]! else d0[p]!
theorem Sh.start (d : Array NB) (i : Nat) : Sh d d i i := ⟨rfl, fun p => by rw [if_neg (by omega)]⟩
theorem Sh.step {d0 dk : Array NB} {k i : Nat} (h : Sh d0 dk (k + 1) i) (hk : k + 1 ≤ i) (hi : i < d0.size) : Sh d0 (dk.setIfInBounds (k + 1) dk[k]!) k i := by
  have hs := h.1
  refine ⟨by rw [Array.size_setIfInBounds]; exact hs, fun p => ?_⟩
  have hk' : dk[k]! = d0[k]! := by rw [h.2 k, if_neg (by omega)]
  rw [set_get _ _ _ (by omega), hk', h.2 p]
  by_cases e : p = k + 1
  · subst e
    rw [if_pos rfl, if_pos (by omega)]; rfl
  · rw [if_neg e]
    by_cases c : k + 1 < p ∧ p ≤ i
    · rw [if_pos c, if_pos (by omega)]
    · rw [if_neg c, if_neg (by omega)]
theorem Sh.done {d0 dk : Array NB} {k i : Nat} (h : Sh d0 dk k i) (hk : k ≤ i) (hi : i < d0.size) (q : Nat) : (dk.setIfInBounds k d0[i]!)[q]! = rotG d0 k i (i + 1) q := by
  rw [set_get _ _ _ (by rw [h.1]; omega), h.2 q]
  unfold rotG
  repeat' split
  all_goals first | (exfalso; omega) | rfl | (congr 1; omega)
theorem arr_ext {d e : Array NB} (hs : d.size = e.size) (h : ∀ q : Nat, d[q]! = e[q]!) : d = e := by
  refine Array.ext hs fun i h1 h2 => ?_
  have := h i
  simpa [h1, h2] using this
theorem rot_perm {d e : Array NB} {k i : Nat} (hk : k ≤ i) (hi : i < d.size) (hs : e.size = d.size) (h : ∀ q, e[q]! = rotG d k i (i + 1) q) : PermIn 0 (i + 1) d e := by
  have key : ∀ j, j ≤ i - k → ∃ dj : Array NB, dj.size = d.size ∧ PermIn 0 (i + 1) d dj ∧ ∀ q, dj[q]! = rotG d (i - j) i (i + 1) q := by
    intro j
    induction j with
    | zero =>
      intro _
      refine ⟨d, rfl, permIn_refl _ _ _, fun q => ?_⟩
      unfold rotG
      repeat' split
      all_goals first | (exfalso; omega) | rfl | (congr 1; omega)
    | succ j ih =>
      intro hj
      obtain ⟨dj, h1, h2, h3⟩ := ih (by omega)
      obtain ⟨h4, h5⟩ := rot_right_step (a := 0) (kk := i - j) (m := i) (i := k) (b := i + 1) h1 (by omega) (by omega) (by omega) (by omega) (by omega) h2 h3
      exact ⟨_, by rw [swp_size]; exact h1, h4, fun q => by rw [h5 q, show i - j - 1 = i - (j + 1) by omega]⟩
  obtain ⟨dj, h1, h2, h3⟩ := key (i - k) (Nat.le_refl _)
  have : e = dj := arr_ext (by omega) fun q => by rw [h q, h3 q, show i - (i - k) = k by omega]
  rw [this]; exact h2
/-- One more number in its place. -/
theorem srt_step {d0 dk : Array NB} {k i N : Nat} (h : Sh d0 dk k i) (hk : k ≤ i) (hi : i < N) (hN : d0.size = N) (hS : SortedIn ltN 0 i d0) (h1 : k = 0 ∨ ltN d0[i]! d0[k - 1]! = false) (h2 : k = i ∨ ltN d0[i]! d0[k]! = true) :
    SortedIn ltN 0 (i + 1) (dk.setIfInBounds k d0[i]!) ∧ PermIn 0 N d0 (dk.setIfInBounds k d0[i]!) := by
  have hg := h.done hk (by omega)
  refine ⟨merge_right swo_ltN hS (Nat.zero_le _) hk h1 h2 hg, permIn_mono d0 _ 0 (i + 1) 0 N (Nat.le_refl _) (by omega) (by omega) (rot_perm hk (by omega) ?_ hg)⟩
  rw [Array.size_setIfInBounds, h.1]

theorem lit0F (dst : Option Tmp) (ty : TypeId) (pos : String) (after : Array Edge) (ev : Operand → Value) (w : World) : (execOp ev ⟨dst, .buildSlice 77 0 #[], ty, pos, after, none⟩).run Try.prog w = .ok (.value (.slice (some ⟨w.heap.size, 0, none⟩) 0 0)) (w.alloc (.cells #[] 24)) := by kernel_rfl
/-- Sorted numbers in memory of their own are handed back. -/
def RetSrt (d0 : Array NB) (w : World) (e : Ending) (w' : World) : Prop :=
  ∃ (u : Value) (d : Array NB), e = .returned u ∧ w'.ownsRow w.heap.size 24 1 u d.size (nums d) ∧ Below w.heap.size w w' ∧ PermIn 0 d0.size d0 d ∧ SortedIn ltN 0 d0.size d
def SrtRel (d0 : Array NB) (n : Nat) (w : World) (gq cp : Nat) (v4 : Value) (wr : World) : Prop :=
  ∃ (i : Nat) (d : Array NB), 1 ≤ i ∧ i ≤ n ∧ v4 = .int .i64 i ∧ wr.ownsRow w.heap.size 24 1 (.slice (some ⟨gq, 0, none⟩) n cp) n (nums d) ∧ Below w.heap.size w wr ∧ d.size = n ∧ PermIn 0 n d0 d ∧ SortedIn ltN 0 i d
def ShRel (n : Nat) (d : Array NB) (i : Nat) (w : World) (gq cp : Nat) (v6 : Value) (wr : World) : Prop :=
  ∃ (k : Nat) (dk : Array NB), k ≤ i ∧ v6 = .int .i64 k ∧ wr.ownsRow w.heap.size 24 1 (.slice (some ⟨gq, 0, none⟩) n cp) n (nums dk) ∧ Below w.heap.size w wr ∧ Sh d dk k i ∧ (k = i ∨ ltN d[i]! d[k]! = true)
theorem infoF4 : (Try.prog.info? 24).map (fun i => (i.zero, i.size, i.bytes)) = some (some (.float .f32 0), 1, 4) := by kernel_rfl
theorem nums_at {w : World} {base gq n cp : Nat} {d : Array NB} (h : w.ownsRow base 24 1 (.slice (some ⟨gq, 0, none⟩) n cp) n (nums d)) (hd : d.size = n) {i : Nat} (hi : i < n) : w.cell? ⟨gq, i, none⟩ = some (.float .f32 d[i]!.1) := by
  rw [World.ownsRow.cellAt h i (by omega)]
  exact nums_get (by omega)
theorem sorted_one (d : Array NB) : SortedIn ltN 0 1 d := fun p q _ h1 h2 => absurd h1 (by omega)

set_option maxRecDepth 100000 in
set_option maxHeartbeats 3200000 in
theorem l04Sort_any (g0 cap0 : Nat) (d0 : Array NB) (w : World) (hsz : d0.size ≤ 100000) (hp : 0 < d0.size) (hv : ∀ j, j < d0.size → w.cell? ⟨g0, 0 + j, none⟩ = some (.float .f32 d0[j]!.1)) :
    Calls Try.prog 50 #[.slice (some ⟨g0, 0, none⟩) d0.size cap0] w (RetSrt d0 w) := by
  obtain ⟨i0, hi, hz0, hz1, hz2⟩ := info_parts infoF4
  have HV : Hid (∀ j u, (nums d0)[j]? = some u → w.cell? ⟨g0, 0 + j, none⟩ = some u) := by
    show ∀ _, _
    intro j u hu
    have hj : j < d0.size := by have := (List.getElem?_eq_some_iff.1 hu).1; rw [nums_len] at this; exact this
    rw [nums_get hj] at hu
    cases hu
    exact hv j hj
  have HONE : Hid (∀ u ∈ nums d0, u.oneCell' = true) := by
    show ∀ _, _
    intro u hu
    unfold nums at hu
    obtain ⟨x, _, rfl⟩ := List.mem_map.1 hu
    rfl
  clear hv
  obtain ⟨n, hn⟩ : ∃ n, d0.size = n := ⟨_, rfl⟩
  rw [hn] at hsz hp ⊢
  have HN := Lib.hid hn
  clear hn
  go_enter Try.func50, Try.ntmps50
  go_wp2_with (first | ((with_reducible refine wpList_lit0 (base := w.heap.size) (s := 1) (E := 24) ?_ ?_ ?_); exact Nat.le_refl _; exact lit0F _ _ _ _))
  intro vL w2 hvL hb2
  have HO2 := Lib.hid hvL
  have HB2 := Lib.hid hb2
  have HQ2 : Hid (∀ j u, (nums d0)[j]? = some u → w2.cell? ⟨g0, 0 + j, none⟩ = some u) := by
    show ∀ _, _
    intro j u hu
    exact cell_below hb2 (HV.out j u hu)
  have hbs := hb2.size
  clear hvL hb2
  go_wp2_with (at_builtin; refine wpList_append_own _ rfl _ _ 77 rfl w.heap.size 24 i0 (.float .f32 0) 1 4 Try.underlying77 hi hz0 hz1 hz2 rfl (by decide) _ _ _ rfl HO2.out ⟨g0, 0, none⟩ n cap0 (nums d0) rfl (by rw [nums_len, HN.out, Nat.mul_one]) (add_cells HQ2.out) HONE.out (by unfold maxLen; omega) (by omega) hbs ?_)
  intro v' w7 hown7 hgrow _
  have HX7 : Hid (Below w.heap.size w w7) := HB2.out.grown hgrow hbs (fun q hq => (HO2.out.lt q hq).1)
  have HO7 : Hid (w7.ownsRow w.heap.size 24 1 v' n (nums d0)) := hown7
  clear hown7 hgrow
  obtain ⟨gq, cp, rfl⟩ : ∃ gq cp, v' = .slice (some ⟨gq, 0, none⟩) n cp := by
    obtain ⟨h1, ⟨h2, h3⟩ | ⟨g', cap', cur, e, _⟩⟩ := HO7.out
    · omega
    · exact ⟨g', cap', e⟩
  have hgw : w.heap.size ≤ gq := (HO7.out.lt gq rfl).1
  go_wp2_with fail
  go_loopw [4] (fun v4 wr => SrtRel d0 n w gq cp v4 wr) (fun v4 _ => n - (intOf v4).toNat)
  case atStart => exact ⟨1, d0, by omega, by omega, rfl, HO7.out, HX7.out, HN.out, permIn_refl _ _ _, sorted_one _⟩
  case round =>
    obtain ⟨i, d, hi1, hi2, rfl, hown, hB, hds, hperm, hsrt⟩ := hrel
    have HO := Lib.hid hown
    have HB := Lib.hid hB
    have HD := Lib.hid hds
    have HP := Lib.hid hperm
    have HS := Lib.hid hsrt
    clear hown hB hds hperm hsrt HO7 HX7
    by_cases hlt : i < n
    · have j1 : (i : Int) < (n : Int) := by omega
      have c1 := nums_at HO.out HD.out hlt
      obtain ⟨x, hx⟩ : ∃ x, d[i]! = x := ⟨_, rfl⟩
      rw [hx] at c1
      have HXE := Lib.hid hx
      clear hx
      go_wp2_with fail
      clear c1
      go_loopw [6] (fun v6 wr => ShRel n d i w gq cp v6 wr) (fun v6 _ => (intOf v6).toNat)
      case atStart => exact ⟨i, d, Nat.le_refl _, rfl, HO.out, HB.out, Sh.start d i, .inl rfl⟩
      case round =>
        obtain ⟨k, dk, hk, rfl, hown, hB, hsh, hlast⟩ := hrel
        have HO2 := Lib.hid hown
        have HB2 := Lib.hid hB
        have HSH := Lib.hid hsh
        have HLA := Lib.hid hlast
        have hdk : dk.size = n := hsh.1.trans HD.out
        have HDK := Lib.hid hdk
        clear hown hB hsh hlast hdk HO HB
        have hlt' := order_lt
        have out : (k = 0 ∨ ltN x d[k - 1]! = false) → Hid (SortedIn ltN 0 (i + 1) (dk.setIfInBounds k x) ∧ PermIn 0 n d0 (dk.setIfInBounds k x)) := fun h => by
          rw [← HXE.out] at h ⊢
          obtain ⟨h1, h2⟩ := srt_step (N := n) HSH.out hk hlt HD.out HS.out h HLA.out
          exact ⟨h1, permIn_trans _ _ _ _ _ HP.out h2⟩
        have OUT := Lib.hid out
        clear out
        by_cases hk0 : k = 0
        · subst hk0
          have e0 : ¬ (0 : Int) < ((0 : Nat) : Int) := by omega
          go_wp2_with ((with_reducible refine wpList_gateS ?_); refine wpList_putO (i := 0) (v := .float .f32 x.1) size32 HO2.out ?_ ?_ ?_ ?_ ?_ ?_; (exact by omega); rfl; rfl; rfl; rfl)
          intro w3 ho3 hg3
          have HO3 : Hid (w3.ownsRow w.heap.size 24 1 (.slice (some ⟨gq, 0, none⟩) n cp) n (nums (dk.setIfInBounds 0 x))) := by rw [← nums_set]; exact ho3
          have HB3 := Lib.hid (below_grown HB2.out hg3 HB2.out.size hgw)
          clear ho3 hg3
          go_wp2_with fail
          go_roundw
          case rel => exact ⟨i + 1, _, by omega, by omega, by go_num, HO3.out, HB3.out, by rw [Array.size_setIfInBounds]; exact HDK.out, (OUT.out (.inl (by trivial))).out.2, (OUT.out (.inl (by trivial))).out.1⟩
          case measure => simp [intOf]; omega
        · obtain ⟨p, rfl⟩ : ∃ p, k = p + 1 := ⟨k - 1, by omega⟩
          have hpn : p < n := by omega
          have c1 := nums_at HO2.out HDK.out hpn
          have ep : dk[p]! = d[p]! := by rw [HSH.out.2 p, if_neg (by omega)]
          obtain ⟨y, hy⟩ : ∃ y, d[p]! = y := ⟨_, rfl⟩
          rw [ep, hy] at c1
          have HY := Lib.hid hy
          have HEP := Lib.hid ep
          have z1 : (0 : Int) < (p : Int) + 1 := by omega
          have z2 : (p : Int) < (n : Int) := by omega
          have z3 : (p : Int) + 1 < (n : Int) := by omega
          have z4 : ((p : Int) + 1).toNat = p + 1 := by omega
          have z5 : IntKind.i64.wrap (p : Int) = (p : Int) := by rw [IntKind.wrap_i64]; omega
          have hf := flt_nb x y
          clear hy ep
          cases hl : ltN x y
          · rw [hl] at hf
            have HL := Lib.hid hl
            clear hl
            go_wp2_with ((with_reducible refine wpList_gateS ?_); refine wpList_putO (i := p + 1) (v := .float .f32 x.1) size32 HO2.out ?_ ?_ ?_ ?_ ?_ ?_; (exact by omega); rfl; rfl; rfl; rfl)
            intro w3 ho3 hg3
            have HO3 : Hid (w3.ownsRow w.heap.size 24 1 (.slice (some ⟨gq, 0, none⟩) n cp) n (nums (dk.setIfInBounds (p + 1) x))) := by rw [← nums_set]; exact ho3
            have HB3 := Lib.hid (below_grown HB2.out hg3 HB2.out.size hgw)
            have OK := OUT.out (.inr (by rw [Nat.add_sub_cancel, HY.out]; exact HL.out))
            clear ho3 hg3 c1
            go_wp2_with fail
            go_roundw
            case rel => exact ⟨i + 1, _, by omega, by omega, by go_num, HO3.out, HB3.out, by rw [Array.size_setIfInBounds]; exact HDK.out, OK.out.2, OK.out.1⟩
            case measure => simp [intOf]; omega
          · rw [hl] at hf
            have HL := Lib.hid hl
            clear hl
            go_wp2_with ((with_reducible refine wpList_gateS ?_); refine wpList_putO (i := p + 1) (v := .float .f32 y.1) size32 HO2.out ?_ ?_ ?_ ?_ ?_ ?_; (exact by omega); rfl; rfl; rfl; rfl)
            intro w3 ho3 hg3
            have HO3 : Hid (w3.ownsRow w.heap.size 24 1 (.slice (some ⟨gq, 0, none⟩) n cp) n (nums (dk.setIfInBounds (p + 1) dk[p]!))) := by rw [← nums_set, HEP.out, HY.out]; exact ho3
            have HB3 := Lib.hid (below_grown HB2.out hg3 HB2.out.size hgw)
            clear ho3 hg3 c1
            go_wp2_with fail
            go_roundw
            case rel => exact ⟨p, _, by omega, by go_num, HO3.out, HB3.out, HSH.out.step hk (by have := HD.out; omega), .inr (by rw [HXE.out, HY.out]; exact HL.out)⟩
            case measure => simp [intOf]
    · have j1 : ¬ (i : Int) < (n : Int) := by omega
      obtain rfl : i = n := by omega
      go_wp2_with fail
      go_ret
      refine ⟨_, d, rfl, by rw [HD.out]; exact HO.out, HB.out, ?_, ?_⟩
      · rw [HN.out]; exact HP.out
      · rw [HN.out]; exact HS.out
end Go.Proofs.Ytonmdkhfongmhaa

namespace Go.Proofs.Ytonmdkhfongmhaa
open Go.RowKit
open Go.Sort (PermIn SortedIn Holds putRow)

set_option maxHeartbeats 800000 in
theorem lnTime_any (t l : Int) (h1 : 1 ≤ t) (h2 : t ≤ 100000) (w : World) : Calls Try.prog 53 #[.agg #[.int .i64 t, .int .i16 l]] w (RetF (lnH (ofI t)) w) := by
  have HX := Lib.hid (high_ofI h1 h2)
  clear h1 h2
  go_enter Try.func53, Try.ntmps53
  go_wp2_with (with_reducible refine wpList_box rfl ?_)
  intro A wA hA1 hA2 hA3 hA4
  have c0 : wA.cell? ⟨A, 0, none⟩ = some (.int .i64 t) := hA3.at rfl
  have HB := Lib.hid hA4
  clear hA3 hA4
  go_wp2_with (first | (go_at_call 91; refine (LnOfH_any _ (ofI t) _ (Is.ofI t) HX.out).mono ?_; rintro e w1 ⟨r, rfl, hr, hb⟩))
  go_ret
  exact ⟨r, rfl, hr, below_next HB.out hb⟩

def numL (L : List NB) : List Value := L.map encN
theorem numL_len (L : List NB) : (numL L).length = L.length := by simp [numL]
theorem numL_more (L : List NB) (x : NB) : numL (L ++ [x]) = numL L ++ [.float .f32 x.1] := by simp [numL, encN]
def OuRel (l : List Rd) (w : World) (v4 v17 : Value) (wr : World) : Prop :=
  ∃ i gq cp, i ≤ l.length ∧ v17 = .int .i64 (i : Nat) ∧ v4 = .slice (some ⟨gq, 0, none⟩) (allL l i).length cp ∧ wr.ownsRow w.heap.size 24 1 v4 (allL l i).length (numL (allL l i)) ∧ Below w.heap.size w wr
def InRel (l : List Rd) (w : World) (i B : Nat) (cs : Array Value) (v4 v27 : Value) (wr : World) : Prop :=
  ∃ (j gq cp : Nat) (L : List NB), i + 1 + j ≤ l.length ∧ v27 = .int .i64 (j : Nat) ∧ L = allL l i ++ rowL l i (i + 1 + j) ∧ v4 = .slice (some ⟨gq, 0, none⟩) L.length cp ∧ wr.ownsRow w.heap.size 24 1 v4 L.length (numL L) ∧ gq ≠ B ∧ Blk wr B cs 81 ∧ Below w.heap.size w wr
/-- The median and its code. -/
def RetMed (l : List Rd) (w : World) (e : Ending) (w' : World) : Prop :=
  ∃ r, e = .returned (.tuple #[.float .f32 r, .int .i64 (medC l)]) ∧ Is r (medF l) ∧ Below w.heap.size w w'

theorem holds_of_owns {w : World} {base gq cp : Nat} {L : List NB} (h : w.ownsRow base 24 1 (.slice (some ⟨gq, 0, none⟩) L.length cp) L.length (numL L)) : Holds encN w gq 0 L.toArray ∧ base ≤ gq := by
  refine ⟨fun j hj => ?_, (h.lt gq rfl).1⟩
  rw [List.size_toArray] at hj
  rw [Nat.zero_add]
  refine ⟨?_, ?_⟩
  · rw [World.ownsRow.cellAt h j (by omega)]
    unfold numL
    rw [List.getElem?_map, List.getElem?_eq_getElem hj]
    show some (encN L[j]) = _
    congr 2
    rw [getElem!_pos L.toArray j (by simpa using hj)]
    simp
  · obtain ⟨_, h2 | ⟨g, cap', cur, he, hb, hg, _⟩⟩ := h
    · cases h2.1
    · cases he
      exact (show Blk w gq cur 24 from hg).free j
set_option maxRecDepth 100000 in
set_option maxHeartbeats 1600000 in
theorem sortS_any (blk cap N : Nat) (d : Array NB) (w : World) (hH : Holds encN w blk 0 d) (hN : d.size = N) (hsz : N < 1152921504606846976) :
    Calls Try.prog 55 #[.slice (some ⟨blk, 0, none⟩) N cap, .func (.func 56) #[] #[]] w (RetPut w blk 0 N (fun d' => PermIn 0 N d d' ∧ SortedIn ltN 0 N d')) := by
  have HC := Lib.hid (stable_any blk 0 cap N d w hH hN hsz)
  clear hH hN
  go_enter Try.func55, Try.ntmps55
  go_wp2_with (go_at_call 92; refine HC.out.mono ?_; rintro e w1 ⟨rfl, d', k, rfl, hs, hq⟩)
  go_end0
  exact ⟨rfl, d', k, rfl, hs, hq⟩

set_option maxRecDepth 100000 in
set_option maxHeartbeats 3200000 in
theorem MedianSlope_any (g0 : Nat) (l : List Rd) (w : World) (hlen : l.length ≤ 1048576) (hv : RAt w (.slice (some ⟨g0, 0, none⟩) l.length l.length) l) :
    Calls Try.prog 15 #[.slice (some ⟨g0, 0, none⟩) l.length l.length] w (RetMed l w) := by
  have HV := Lib.hid hv
  have hrng : ∀ e ∈ l, e.Rng := by
    obtain ⟨a, c, _, hL⟩ := hv
    intro e he
    obtain ⟨j, hj, rfl⟩ := List.getElem_of_mem he
    exact (hL j _ (List.getElem?_eq_getElem hj)).1
  have hrow : ∀ (j : Nat) (e : Rd), l[j]? = some e → w.rangeAt g0 (j * 2) e.cells := by
    obtain ⟨a, c, hc, hL⟩ := hv
    cases hc
    intro j e he
    obtain ⟨g, hg, hq⟩ := (hL j e he).2
    cases hg
    exact hq
  have HROW := Lib.hid hrow
  clear hv hrow
  cases hok : okR l
  · have HOK := Lib.hid hok
    have HR : Hid (medF l = some 0) := by show _ = _; unfold medF; rw [hok]; rfl
    have HC : Hid (medC l = 1) := by show _ = _; unfold medC; rw [hok]; rfl
    clear hok hrng
    go_enter Try.func15, Try.ntmps15
    go_wp2_with (go_at_call 52; refine (ValidReadings_any _ l _ hlen HV.out).mono ?_; rw [HOK.out]; rintro e w1 ⟨rfl, hb1⟩)
    go_ret2
    exact ⟨0, by rw [HC.out]; rfl, by show fb 0 = _; rw [HR.out]; exact fb0, hb1⟩
  · have HOK := Lib.hid hok
    have HGD := Lib.hid (good_of hok hrng)
    have hl40 : l.length ≤ 40 := by
      unfold okR at hok
      rw [Bool.and_eq_true] at hok
      exact of_decide_eq_true hok.1
    have HF : Hid (medF l = if (allL l l.length).length = 0 then some 0 else medV (srtL l)) := by show _ = _; unfold medF; rw [hok]; rfl
    have HC : Hid (medC l = if (allL l l.length).length = 0 then 6 else 0) := by show _ = _; unfold medC; rw [hok]; rfl
    clear hok hrng
    obtain ⟨i0, hi, hz0, hz1, hz2⟩ := info_parts Try.info24
    have hgt := order_gt
    go_enter Try.func15, Try.ntmps15
    go_wp2_with (go_at_call 52; refine (ValidReadings_any _ l _ hlen HV.out).mono ?_; rw [HOK.out]; rintro e w1 ⟨rfl, hb1⟩)
    have HB1 := Lib.hid hb1
    clear hb1
    go_wp2_with fail
    go_loopw [4, 17] (fun v4 v17 wr => OuRel l w v4 v17 wr) (fun _ v17 _ => l.length - (intOf v17).toNat)
    case atStart => exact ⟨0, _, _, Nat.zero_le _, rfl, rfl, owns_monoN (World.ownsRow_lit w1 #[] 0 (Nat.le_refl _) (by simp [maxLen]) rfl) HB1.out.size, (HB1.out).alloc HB1.out.size _⟩
    case round =>
      obtain ⟨i, gq, cp, hi1, rfl, rfl, hown, hBB⟩ := hrel
      have HO := Lib.hid hown
      have HBX := Lib.hid hBB
      have hbs := hBB.size
      clear hown hBB
      by_cases hlt : i < l.length
      · obtain ⟨e, he⟩ : ∃ e, l[i]? = some e := ⟨_, List.getElem?_eq_getElem hlt⟩
        have HE := Lib.hid he
        have HQ := Lib.hid (range_below (HROW.out i e he) HBX.out)
        have HGE := Lib.hid (HGD.out e (List.mem_of_getElem? he))
        have j1 : (i : Int) < (l.length : Int) := by omega
        have j2 : (i : Int) + 1 ≤ (l.length : Int) := by omega
        have j4 : (0 : Int) ≤ (i : Int) + 1 := by omega
        have w0 : IntKind.i64.wrap ((i : Int) + 1) = (i : Int) + 1 := by simp only [IntKind.wrap, IntKind.bits, IntKind.signed]; simp; omega
        clear he
        go_wp2_with (first | ((with_reducible refine wpList_gateL ?_); refine wpList_load_mid rfl _ _ rfl g0 (i * 2) rfl e.cells _ HQ.out Try.underlying81 rfl sizeRd ?_) | (with_reducible refine wpList_new newR ?_))
        intro B wB hB1 hB2 hB3 hB4
        have hgl : gq < wr.heap.size := HO.out.lt gq rfl |>.2
        have HO3 := Lib.hid (owns_belowN HO.out hB4)
        have HX3 := Lib.hid (below_next HBX.out hB4)
        clear hB4
        go_wp2_with ((with_reducible refine wpList_gateS ?_); refine wpList_put (cells := #[.int .i64 e.t, .int .i16 e.l]) hB3 sizeRd rfl (by simp [Value.oneCell']) rfl rfl ?_)
        intro w3 s3 b3 k3
        have HO4 := Lib.hid (owns_farN HO3.out k3 (fun q hq => by have e1 : gq = q := Option.some.inj hq; omega))
        have HX4 := Lib.hid (below_grown HX3.out k3 HX3.out.size (by omega))
        have HB3 := Lib.hid b3
        clear hB3 k3 s3 b3
        have hne : gq ≠ B := by omega
        by_cases hce : l.length = i + 1
        · have hil : i + 1 = l.length := by omega
          have HAL : Hid (allL l (i + 1) = allL l i) := by
            show allL l i ++ rowL l i l.length = _
            rw [rowL_low l i l.length (by omega), List.append_nil]
          have m0 : ((l.length - (i + 1) : Nat) : Int) = 0 := by omega
          have hi2 : i + 1 ≤ l.length := by omega
          have hq : (l.length = i + 1) = True := eq_true hce
          clear hil hce
          go_wp2_with fail
          go_loopw [4, 27] (fun v4 v27 wr' => v4 = .slice (some ⟨gq, 0, none⟩) (allL l i).length cp ∧ v27 = .int .i64 0 ∧ w3 = wr') (fun _ _ _ => 0)
          case atStart => exact ⟨rfl, rfl, rfl⟩
          case round =>
            obtain ⟨rfl, rfl, rfl⟩ := hrel
            go_wp2_with fail
            go_roundw
            case rel =>
              exact ⟨i + 1, gq, cp, hi2, by go_num, by rw [HAL.out], by rw [HAL.out]; exact HO4.out, HX4.out⟩
            case measure => simp only [intOf]; have := hi2; simp; omega
        · go_wp2_with fail
          go_loopw [4, 27] (fun v4 v27 wr' => InRel l w i B #[.int .i64 e.t, .int .i16 e.l] v4 v27 wr') (fun _ v27 _ => l.length - (i + 1) - (intOf v27).toNat)
          case atStart => exact ⟨0, gq, cp, allL l i, by omega, rfl, by rw [rowL_low l i (i + 1 + 0) (by omega), List.append_nil], rfl, HO4.out, hne, HB3.out, HX4.out⟩
          case round =>
            obtain ⟨j, gq2, cp2, L, hj, rfl, hL, rfl, hown2, hne2, hBk, hBB2⟩ := hrel
            have HO5 := Lib.hid hown2
            have HX5 := Lib.hid hBB2
            have HBK := Lib.hid hBk
            have HLL := Lib.hid hL
            have hbs5 := hBB2.size
            clear hown2 hBB2 hBk hL HO4 HX4 HB3 HO3 HX3
            have hlL : L.length ≤ 100000 := by
              rw [HLL.out, List.length_append]
              have h1 := allL_len l i
              have h2 := rowL_len l i (i + 1 + j)
              have h3 : l.length * i ≤ 40 * 40 := Nat.mul_le_mul hl40 (by omega)
              omega
            by_cases hlt2 : i + 1 + j < l.length
            · obtain ⟨b, hb⟩ : ∃ b, l[i + 1 + j]? = some b := ⟨_, List.getElem?_eq_getElem hlt2⟩
              have HEB := Lib.hid hb
              have HQB : Hid (wr.rangeAt g0 ((i + 1) * 2 + j * 2) b.cells) := by
                have := range_below (HROW.out _ b hb) HX5.out
                rw [show (i + 1 + j) * 2 = (i + 1) * 2 + j * 2 by omega] at this
                exact this
              have HGB := Lib.hid (HGD.out b (List.mem_of_getElem? hb))
              have m1 : (j : Int) < ((l.length - (i + 1) : Nat) : Int) := by omega
              clear hb
              go_wp2_with (first | ((with_reducible refine wpList_gateL ?_); refine wpList_load_mid rfl _ _ rfl g0 ((i + 1) * 2 + j * 2) rfl b.cells _ HQB.out Try.underlying81 rfl sizeRd ?_) | (with_reducible refine wpList_new newR ?_))
              intro C wC hC1 hC2 hC3 hC4
              have hg2l : gq2 < wr.heap.size := (HO5.out.lt gq2 rfl).2
              have hBl : B < wr.heap.size := HBK.out.lt
              have HO6 := Lib.hid (owns_belowN HO5.out hC4)
              have HX6 := Lib.hid (below_next HX5.out hC4)
              have HBK6 := Lib.hid (HBK.out.later hC4)
              clear hC4
              go_wp2_with ((with_reducible refine wpList_gateS ?_); refine wpList_put (cells := #[.int .i64 b.t, .int .i16 b.l]) hC3 sizeRd rfl (by simp [Value.oneCell']) rfl rfl ?_)
              intro w7 s7 b7 k7
              have HO7 := Lib.hid (owns_farN HO6.out k7 (fun q hq => by have e1 : gq2 = q := Option.some.inj hq; omega))
              have HX7 := Lib.hid (below_grown HX6.out k7 HX6.out.size (by omega))
              have HBK7 : Hid (Blk w7 B #[.int .i64 e.t, .int .i16 e.l] 81) := (k7.block B HBK6.out.lt (fun hq => by have := Option.some.inj hq; omega)).trans HBK6.out
              have HC7 := Lib.hid b7
              clear hC3 k7 s7 b7
              have hbs7 := HX7.out.size
              have KS : Hid (∀ w', Below w7.heap.size w7 w' → w'.cell? ⟨B, 0, none⟩ = some (.int .i64 e.t) ∧ w'.cell? ⟨B, 1, none⟩ = some (.int .i16 e.l) ∧ w'.cell? ⟨C, 0, none⟩ = some (.int .i64 b.t) ∧ w'.cell? ⟨C, 1, none⟩ = some (.int .i16 b.l)) :=
                fun w' hb => ⟨(HBK7.out.later hb).at rfl, (HBK7.out.later hb).at rfl, (HC7.out.later hb).at rfl, (HC7.out.later hb).at rfl⟩
              obtain ⟨c0, c1, d0, d1⟩ := KS.out w7 (Below.refl _ _)
              obtain ⟨x, hx⟩ : ∃ x, dxF e b = some x := by obtain ⟨x, _, _, _, h1, _⟩ := (sub_to 72 (lnE_ok HGB.out) (lnE_ok HGE.out) (by omega) (by omega) (by omega) (by omega) : Le (dxF e b) 72); exact ⟨x, h1⟩
              obtain ⟨yb, hyb⟩ : ∃ y, lnE b = y := ⟨_, rfl⟩
              obtain ⟨ye, hye⟩ : ∃ y, lnE e = y := ⟨_, rfl⟩
              have HLB : Hid (∀ w', Calls Try.prog 53 #[.agg #[.int .i64 b.t, .int .i16 b.l]] w' (RetF yb w')) := fun w' => by rw [← hyb]; exact lnTime_any b.t b.l HGB.out.1.1 HGB.out.1.2 w'
              have HLE : Hid (∀ w', Calls Try.prog 53 #[.agg #[.int .i64 e.t, .int .i16 e.l]] w' (RetF ye w')) := fun w' => by rw [← hye]; exact lnTime_any e.t e.l HGE.out.1.1 HGE.out.1.2 w'
              have HXX : Hid (fsub yb ye = some x) := by show _ = _; rw [← hyb, ← hye]; exact hx
              have HXD := Lib.hid hx
              have HYB := Lib.hid hyb
              have HYE := Lib.hid hye
              clear hx hyb hye
              go_wp2_with fail
              go_region_held3 (fun w' => w'.cell? ⟨B, 0, none⟩ = some (.int .i64 e.t) ∧ w'.cell? ⟨B, 1, none⟩ = some (.int .i16 e.l) ∧ w'.cell? ⟨C, 0, none⟩ = some (.int .i64 b.t) ∧ w'.cell? ⟨C, 1, none⟩ = some (.int .i16 b.l)) (first | exact ⟨c0, c1, d0, d1⟩ | exact KS.out _ (below_next (below_drew (Below.refl w7.heap.size w7)) hb8) | exact KS.out _ (below_next (below_next (below_drew (Below.refl w7.heap.size w7)) hb8) hb9) | go_keep) (first | (go_at_call 53; (with_reducible refine (HLB.out _).mono ?_); rintro e8 w8 ⟨q1, rfl, hq1, hb8⟩) | (go_at_call 53; (with_reducible refine (HLE.out _).mono ?_); rintro e9 w9 ⟨q2, rfl, hq2, hb9⟩; have hsub : ∀ w', (binOp .sub 24 (.float .f32 q1) (.float .f32 q2)).run Try.prog w' = .ok (.float .f32 x) w' := fun w' => run_arith_some (w := w') rfl (by rw [← HXX.out]; show fsub _ _ = _; rw [hq1.out, hq2.out])))
              have HX9 := Lib.hid (below_next (below_next (below_drew HX7.out) hb8) hb9)
              have HO9 := Lib.hid (owns_belowN (owns_belowN (w := w7.drew) HO7.out hb8) hb9)
              have hw79 : Below w7.heap.size w7 w9 := below_next (below_next (below_drew (Below.refl w7.heap.size w7)) hb8) hb9
              have HBK9 := Lib.hid (HBK7.out.later hw79)
              have HC9 := Lib.hid (HC7.out.later hw79)
              have hs79 := hw79.size
              clear hw79 hb8 hb9 hq1 hq2 hsub KS c0 c1 d0 d1
              have hfx : fb x = some x := by
                obtain ⟨x', _, _, _, h1, h2, _⟩ := (sub_to 72 (lnE_ok HGB.out) (lnE_ok HGE.out) (by omega) (by omega) (by omega) (by omega) : Le (dxF e b) 72)
                have h1 : dxF e b = some x' := h1
                rw [HXD.out] at h1
                cases h1
                unfold fb fbOf
                rw [h2]; rfl
              have hgx : fgt (fb x) (fb 0) = upB e b := by rw [hfx, fb0, ← HXD.out]; exact dx_up HGE.out HGB.out
              have HFX := Lib.hid hfx
              have hRe := rAt_of HE.out
              have hRb := rAt_of HEB.out
              have HRW0 : Hid (upB e b = false → rowL l i (i + 1 + (j + 1)) = rowL l i (i + 1 + j)) := fun h => rowL_no (l := l) (i := i) (k := i + 1 + j) (by rw [hRe, hRb]; exact h)
              have HRW1 : Hid (upB e b = true → rowL l i (i + 1 + (j + 1)) = rowL l i (i + 1 + j) ++ [slN e b]) := fun h => by
                have := rowL_yes (l := l) (i := i) (k := i + 1 + j) (by omega) (by rw [hRe, hRb]; exact h)
                rw [hRe, hRb] at this
                exact this
              clear hfx hRe hRb
              cases hup : upB e b
              · rw [hup] at hgx
                have HLN : Hid (L = allL l i ++ rowL l i (i + 1 + (j + 1))) := by show _ = _; rw [HRW0.out hup]; exact HLL.out
                clear hup
                go_wp2_with fail
                go_roundw
                case rel => exact ⟨j + 1, gq2, cp2, L, by omega, by go_num, HLN.out, rfl, HO9.out, hne2, HBK9.out, HX9.out⟩
                case measure => simp [intOf]; omega
              · rw [hup] at hgx
                have HLN : Hid (L ++ [slN e b] = allL l i ++ rowL l i (i + 1 + (j + 1))) := by show _ = _; rw [HRW1.out hup, HLL.out, List.append_assoc]
                obtain ⟨c2, hc2⟩ : ∃ c, dyF e b = some c := by obtain ⟨c, _, _, _, h1, _⟩ := dy_val HGE.out HGB.out; exact ⟨c, h1⟩
                have HFC : Hid (fb c2 = some c2) := by
                  show _ = _
                  obtain ⟨c', _, _, _, h1, h2, _⟩ := dy_val HGE.out HGB.out
                  rw [hc2] at h1
                  cases h1
                  unfold fb fbOf
                  rw [h2]; rfl
                obtain ⟨sv, hsv⟩ : ∃ sv, (slN e b).1 = sv := ⟨_, rfl⟩
                have HSV := Lib.hid hsv
                have hquo : ∀ w', (binOp .quo 24 (.float .f32 c2) (.float .f32 x)).run Try.prog w' = .ok (.float .f32 sv) w' := by
                  have h1 := slN_of HGE.out HGB.out hup
                  unfold slF at h1
                  rw [hc2, HXD.out, hsv] at h1
                  exact fun w' => run_arith_some (w := w') rfl (by show fdiv (fb c2) (fb x) = some sv; rw [HFC.out, HFX.out]; exact h1)
                obtain ⟨lb, hlb⟩ : ∃ y, levF b.l = y := ⟨_, rfl⟩
                obtain ⟨le, hle⟩ : ∃ y, levF e.l = y := ⟨_, rfl⟩
                have HVB : Hid (∀ w', Calls Try.prog 54 #[.agg #[.int .i64 b.t, .int .i16 b.l]] w' (RetF lb w')) := fun w' => by rw [← hlb]; exact LevelOf_any b.t b.l w'
                have HVE : Hid (∀ w', Calls Try.prog 54 #[.agg #[.int .i64 e.t, .int .i16 e.l]] w' (RetF le w')) := fun w' => by rw [← hle]; exact LevelOf_any e.t e.l w'
                have HD2 : Hid (fsub lb le = some c2) := by show _ = _; rw [← hlb, ← hle]; exact hc2
                have KS : Hid (∀ w', Below w9.heap.size w9 w' → w'.cell? ⟨B, 0, none⟩ = some (.int .i64 e.t) ∧ w'.cell? ⟨B, 1, none⟩ = some (.int .i16 e.l) ∧ w'.cell? ⟨C, 0, none⟩ = some (.int .i64 b.t) ∧ w'.cell? ⟨C, 1, none⟩ = some (.int .i16 b.l)) :=
                  fun w' hb => ⟨(HBK9.out.later hb).at rfl, (HBK9.out.later hb).at rfl, (HC9.out.later hb).at rfl, (HC9.out.later hb).at rfl⟩
                obtain ⟨c0, c1, d0, d1⟩ := KS.out w9 (Below.refl _ _)
                have hbs9 := HX9.out.size
                have hBl9 : B < w9.heap.size := HBK9.out.lt
                have hCl9 : C < w9.heap.size := HC9.out.lt
                have hCne : gq2 ≠ C := by omega
                clear hup hsv hlb hle hc2
                go_wp2_with fail
                go_region_held3 (fun w' => w'.cell? ⟨B, 0, none⟩ = some (.int .i64 e.t) ∧ w'.cell? ⟨B, 1, none⟩ = some (.int .i16 e.l) ∧ w'.cell? ⟨C, 0, none⟩ = some (.int .i64 b.t) ∧ w'.cell? ⟨C, 1, none⟩ = some (.int .i16 b.l)) (first | exact ⟨c0, c1, d0, d1⟩ | exact KS.out _ (below_next (below_drew (Below.refl w9.heap.size w9)) hb10) | exact KS.out _ (below_next (below_next (below_drew (Below.refl w9.heap.size w9)) hb10) hb11) | exact KS.out _ ((below_next (below_next (below_drew (Below.refl w9.heap.size w9)) hb10) hb11).alloc (Nat.le_trans hb10.size hb11.size) _) | exact ⟨h12B.at rfl, h12B.at rfl, h12C.at rfl, h12C.at rfl⟩ | go_keep) (first | (go_at_call 54; (with_reducible refine (HVB.out _).mono ?_); rintro e10 w10 ⟨q1, rfl, hq1, hb10⟩) | (go_at_call 54; (with_reducible refine (HVE.out _).mono ?_); rintro e11 w11 ⟨q2, rfl, hq2, hb11⟩; have hsub : ∀ w', (binOp .sub 24 (.float .f32 q1) (.float .f32 q2)).run Try.prog w' = .ok (.float .f32 c2) w' := fun w' => run_arith_some (w := w') rfl (by rw [← HD2.out]; show fsub _ _ = _; rw [hq1.out, hq2.out])) | (refine step_append_lies _ rfl _ _ 77 rfl w.heap.size 24 i0 (.float .f32 0) 1 4 Try.underlying77 hi hz0 hz1 hz2 rfl (by decide) _ _ _ rfl ((owns_belowN (owns_belowN (w := w9.drew) HO9.out hb10) hb11).alloc _) ⟨w11.heap.size, 0, none⟩ 1 1 [.float .f32 sv] rfl rfl (cell_one_new _ _ _) (by simp [Value.oneCell']) (by decide) (by unfold maxLen; omega) (by omega) (by have h9 : w.heap.size ≤ w11.heap.size := Nat.le_trans hbs9 (Nat.le_trans (show w9.heap.size ≤ w10.heap.size from hb10.size) hb11.size); simp; omega) _ rfl ?_; intro gA capA w12 hown12 hgrow hat hlt12; have h911 : Below w9.heap.size w9 (w11.alloc (.cells #[.float .f32 sv] 24)) := (below_next (below_next (below_drew (Below.refl w9.heap.size w9)) hb10) hb11).alloc (Nat.le_trans hb10.size hb11.size) _; have HX12 : Below w.heap.size w w12 := (below_next HX9.out h911).grown hgrow (Nat.le_trans hbs9 h911.size) (fun q hq => (HO9.out.lt q hq).1); have h6B := HBK9.out.later h911; have h6C := HC9.out.later h911; have h12B : Blk w12 B #[.int .i64 e.t, .int .i16 e.l] 81 := (hgrow.block B h6B.lt (fun hq => by have e1 : B = gq2 := Option.some.inj hq; omega)).trans h6B; have h12C : Blk w12 C #[.int .i64 b.t, .int .i16 b.l] 81 := (hgrow.block C h6C.lt (fun hq => by have e1 : C = gq2 := Option.some.inj hq; omega)).trans h6C))
                have HO12 : Hid (w12.ownsRow w.heap.size 24 1 (.slice (some ⟨gA, 0, none⟩) (L.length + 1) capA) (L ++ [slN e b]).length (numL (L ++ [slN e b]))) := by
                  show World.ownsRow _ _ _ _ _ _ _
                  rw [numL_more, HSV.out, List.length_append]
                  exact hown12
                have hAB : gA ≠ B := by
                  have h9 := hb10.size
                  have h10 := hb11.size
                  have h11 : w9.drew.heap.size = w9.heap.size := rfl
                  rcases hat with h | h
                  · have e1 : gq2 = gA := Option.some.inj h
                    omega
                  · simp at h
                    omega
                have HX13 := Lib.hid HX12
                have HBK13 := Lib.hid h12B
                clear hown12 hgrow hat HX12 h12B h12C h6B h6C h911 hsub hquo hq1 hq2 hb10 hb11
                go_wp2_with fail
                go_roundw
                case rel => exact ⟨j + 1, gA, capA, L ++ [slN e b], by omega, by go_num, HLN.out, by rw [List.length_append]; rfl, HO12.out, hAB, HBK13.out, HX13.out⟩
                case measure => simp [intOf]; omega
            · have m1 : ¬ (j : Int) < ((l.length - (i + 1) : Nat) : Int) := by omega
              have hk : i + 1 + j = l.length := by omega
              have HAL : Hid (L = allL l (i + 1)) := by show _ = _; rw [HLL.out, hk]; rfl
              go_wp2_with fail
              go_roundw
              case rel =>
                exact ⟨i + 1, gq2, cp2, by omega, by go_num, by rw [← HAL.out], by rw [← HAL.out]; exact HO5.out, HX5.out⟩
              case measure => simp [intOf]; omega
      · have j1 : ¬ (i : Int) < (l.length : Int) := by omega
        obtain rfl : i = l.length := by omega
        obtain ⟨N, hN⟩ : ∃ N, (allL l l.length).length = N := ⟨_, rfl⟩
        have hN2 : N ≤ 1600 := by
          rw [← hN]
          exact Nat.le_trans (allL_len l l.length) (Nat.mul_le_mul hl40 hl40)
        obtain ⟨hH, hgb⟩ := holds_of_owns HO.out
        have HH := Lib.hid hH
        have HGB := Lib.hid hgb
        have hds : (allL l l.length).toArray.size = N := by rw [List.size_toArray]; exact hN
        have HDS := Lib.hid hds
        have HNN := Lib.hid hN
        clear hH hgb HO
        rw [hN]
        clear hN hds
        go_wp2_with fail
        refine (sortS_any gq cp N _ wr HH.out HDS.out (by omega)).mono ?_
        rintro e w2 ⟨rfl, d', k, hw2, hd', hperm, hsort⟩
        have HSR : Hid (d'.toList = srtL l) := srt_of (by rw [HDS.out]; exact hperm) (by rw [HDS.out]; exact hsort)
        have HCL : Hid (∀ j, j < N → w2.cell? ⟨gq, j, none⟩ = some (.float .f32 ((srtL l).getD j default).1)) := by
          show ∀ _, _
          intro j hj
          have h1 := (Sort.holds_putRow encN wr gq 0 (allL l l.length).toArray d' HH.out (by rw [HDS.out]; exact hd') j (by rw [hd']; exact hj)).1
          rw [Nat.zero_add] at h1
          rw [hw2]
          show (putRow encN wr gq 0 d').cell? _ = _
          rw [h1, ← HSR.out]
          show some (Value.float .f32 (d'[j]!).1) = _
          rw [getElem!_pos d' j (by omega)]
          simp [List.getD, hd', hj]
        have HSL : Hid ((srtL l).length = N) := by show _ = _; rw [← HSR.out, Array.length_toList]; exact hd'
        have HB2 : Hid (Below w.heap.size w w2) := by
          refine HBX.out.trans ?_
          rw [hw2]
          refine ⟨rfl, rfl, rfl, by simp, fun k' hk => ?_⟩
          show (putRow encN wr gq 0 d').heap[k']? = wr.heap[k']?
          unfold Sort.putRow Sort.mapBlock
          rw [Array.getElem?_modify, if_neg (by have := HGB.out; omega)]
        clear hw2 hperm hsort
        have HF2 : Hid (medF l = if N = 0 then some 0 else medV (srtL l)) := by show _ = _; rw [HF.out, HNN.out]
        have HC2 : Hid (medC l = if N = 0 then 6 else 0) := by show _ = _; rw [HC.out, HNN.out]
        clear HF HC HNN HH HDS HSR
        by_cases h0 : N = 0
        · subst h0
          go_wp2_with fail
          go_ret2
          exact ⟨0, by rw [HC2.out]; rfl, by show fb 0 = _; rw [HF2.out]; exact fb0, HB2.out⟩
        · have b0 : ((N : Int) == 0) = false := by simpa using h0
          have b1 : ¬ (N : Int) = 0 := by omega
          have HC3 : Hid (medC l = 0) := by show _ = _; rw [HC2.out, if_neg h0]
          have HF3 : Hid (medF l = medV (srtL l)) := by show _ = _; rw [HF2.out, if_neg h0]
          obtain ⟨h, hh⟩ : ∃ h, N / 2 = h := ⟨_, rfl⟩
          have f1 : (N : Int) / 2 = (h : Int) := by omega
          have f1' : (N : Int).tdiv 2 = (h : Int) := by rw [← hh]; rfl
          have wh : IntKind.i64.wrap (h : Int) = (h : Int) := by simp only [IntKind.wrap, IntKind.bits, IntKind.signed]; simp; omega
          have l0 : (0 : Int) ≤ (h : Int) := by omega
          have l1 : (h : Int) < (N : Int) := by omega
          have c0 := HCL.out h (by omega)
          by_cases hodd : N % 2 = 1
          · have t1 : (N : Int) % 2 = 1 := by omega
            have t1' : (N : Int).tmod 2 = 1 := by rw [show (N : Int).tmod 2 = ((N % 2 : Nat) : Int) from rfl, hodd]; rfl
            have HV : Hid (medF l = some ((srtL l).getD h default).1) := by
              show _ = _
              rw [HF3.out]
              unfold medV
              rw [HSL.out, if_pos hodd, hh]
            generalize ((srtL l).getD h default) = x at *
            have HX := Lib.hid (fb_nb x)
            generalize x.1 = xv at *
            go_wp2_with fail
            go_ret2
            exact ⟨xv, by rw [HC3.out]; rfl, by show fb xv = _; rw [HV.out]; exact HX.out, HB2.out⟩
          · have t1 : (N : Int) % 2 = 0 := by omega
            have t1' : (N : Int).tmod 2 = 0 := by rw [show (N : Int).tmod 2 = ((N % 2 : Nat) : Int) from rfl, show N % 2 = 0 by omega]; rfl
            have HV : Hid (medF l = fdiv (fadd (some ((srtL l).getD (h - 1) default).1) (some ((srtL l).getD h default).1)) two) := by
              show _ = _
              rw [HF3.out]
              unfold medV
              rw [HSL.out, if_neg hodd, hh]
            obtain ⟨g, hg⟩ : ∃ g, h - 1 = g := ⟨_, rfl⟩
            have wm : IntKind.i64.wrap ((h : Int) - 1) = (g : Int) := by
              rw [show (h : Int) - 1 = (g : Int) by omega]
              simp only [IntKind.wrap, IntKind.bits, IntKind.signed]; simp; omega
            have g0' : (0 : Int) ≤ (g : Int) := by omega
            have g1' : (g : Int) < (N : Int) := by omega
            have c1 := HCL.out g (by omega)
            rw [hg] at HV
            generalize ((srtL l).getD h default) = x at *
            generalize ((srtL l).getD g default) = y at *
            have HX := Lib.hid (fb_nb x)
            have HY := Lib.hid (fb_nb y)
            generalize x.1 = xv at *
            generalize y.1 = yv at *
            have e0 : ∀ z, (ext w2 z).cell? ⟨gq, h, none⟩ = some (.float .f32 xv) := fun z => ext_cell w2 z c0
            have e1 : ∀ z, (ext w2 z).cell? ⟨gq, g, none⟩ = some (.float .f32 yv) := fun z => ext_cell w2 z c1
            clear hg hh hodd c0 c1
            go_wp2_with fail
            refine wp_soft (SF (some 0)) (by kernel_rfl) (by kernel_rfl) ?_
            repeat (first | (refine soft_arith (fun _ n h => h.drewN n) _ _ rfl rfl rfl ?_; intro r7 hr7) | (refine soft_step (fun K hK => ?_); go_simp; (try go_bits); refine hK _ ?_; clear hK K))
            refine soft_nil ?_
            rintro w5 hw5
            rename_i ra hra
            have HB5 := Lib.hid (below_next HB2.out hw5.below)
            have HR : Hid (Is r7 (medF l)) := by
              show Is _ _
              rw [HV.out]
              exact hr7.op (hra.op HY.out HX.out) rfl
            clear hw5 hr7 hra
            go_wp2_with fail
            go_ret2
            exact ⟨r7, by rw [HC3.out]; rfl, HR.out, HB5.out⟩
end Go.Proofs.Ytonmdkhfongmhaa

namespace Go.Proofs.Ytonmdkhfongmhaa
open Go.RowKit
open Go.Sort (PermIn SortedIn Holds putRow)

/-- The bits of a reading's logarithm. -/
def lnB (e : Rd) : Nat := (lnE e).getD 0
theorem lnB_of {e : Rd} (h : Good e) : lnE e = some (lnB e) ∧ fb (lnB e) = some (lnB e) := by
  obtain ⟨b, s, m, f, h1, h2, _⟩ := lnE_ok h
  have e1 : lnB e = b := by unfold lnB; rw [h1]; rfl
  rw [e1]
  refine ⟨h1, ?_⟩
  unfold fb fbOf
  rw [h2]; rfl
def lgL (l : List Rd) (n : Nat) : List Nat := (l.take n).map lnB
theorem lgL_len {l : List Rd} {n : Nat} (h : n ≤ l.length) : (lgL l n).length = n := by unfold lgL; rw [List.length_map, List.length_take]; omega
theorem lgL_more {l : List Rd} {n : Nat} {e : Rd} (h : l[n]? = some e) : lgL l (n + 1) = lgL l n ++ [lnB e] := by
  unfold lgL
  rw [take_more' h, List.map_append]
  rfl
theorem lgL_at {l : List Rd} {n : Nat} {e : Rd} (h : l[n]? = some e) : (flts (lgL l l.length))[n]? = some (.float .f32 (lnB e)) := by
  unfold flts lgL
  rw [List.getElem?_map, List.getElem?_map, List.take_length, h]
  rfl
def LgRel (l : List Rd) (w : World) (v4 v5 : Value) (wr : World) : Prop :=
  ∃ j gq cp, j ≤ l.length ∧ v5 = .int .i64 (j : Nat) ∧ v4 = .slice (some ⟨gq, 0, none⟩) j cp ∧ wr.ownsRow w.heap.size 24 1 v4 j (flts (lgL l j)) ∧ Below w.heap.size w wr
def OvRel (l : List Rd) (w : World) (gl cl : Nat) (v6 v7 : Value) (wr : World) : Prop :=
  ∃ i gq cp, i ≤ l.length ∧ v7 = .int .i64 (i : Nat) ∧ v6 = .slice (some ⟨gq, 0, none⟩) (allL l i).length cp ∧ wr.ownsRow w.heap.size 24 1 v6 (allL l i).length (numL (allL l i)) ∧ gq ≠ gl ∧ wr.ownsRow w.heap.size 24 1 (.slice (some ⟨gl, 0, none⟩) l.length cl) l.length (flts (lgL l l.length)) ∧ Below w.heap.size w wr
def IvRel (l : List Rd) (w : World) (gl cl i : Nat) (v6 v8 : Value) (wr : World) : Prop :=
  ∃ (k gq cp : Nat) (L : List NB), i + 1 ≤ k ∧ k ≤ l.length ∧ v8 = .int .i64 (k : Nat) ∧ L = allL l i ++ rowL l i k ∧ v6 = .slice (some ⟨gq, 0, none⟩) L.length cp ∧ wr.ownsRow w.heap.size 24 1 v6 L.length (numL L) ∧ gq ≠ gl ∧ wr.ownsRow w.heap.size 24 1 (.slice (some ⟨gl, 0, none⟩) l.length cl) l.length (flts (lgL l l.length)) ∧ Below w.heap.size w wr

set_option maxRecDepth 100000 in
set_option maxHeartbeats 3200000 in
theorem specMedianSlope_any (g0 : Nat) (l : List Rd) (w : World) (hlen : l.length ≤ 1048576) (hv : RAt w (.slice (some ⟨g0, 0, none⟩) l.length l.length) l) :
    Calls Try.prog 13 #[.slice (some ⟨g0, 0, none⟩) l.length l.length] w (RetMed l w) := by
  have HV := Lib.hid hv
  have hrng : ∀ e ∈ l, e.Rng := by
    obtain ⟨a, c, _, hL⟩ := hv
    intro e he
    obtain ⟨j, hj, rfl⟩ := List.getElem_of_mem he
    exact (hL j _ (List.getElem?_eq_getElem hj)).1
  have hrow : ∀ (j : Nat) (e : Rd), l[j]? = some e → w.rangeAt g0 (j * 2) e.cells := by
    obtain ⟨a, c, hc, hL⟩ := hv
    cases hc
    intro j e he
    obtain ⟨g, hg, hq⟩ := (hL j e he).2
    cases hg
    exact hq
  have HROW := Lib.hid hrow
  clear hv hrow
  cases hok : okR l
  · have HOK := Lib.hid hok
    have HR : Hid (medF l = some 0) := by show _ = _; unfold medF; rw [hok]; rfl
    have HC : Hid (medC l = 1) := by show _ = _; unfold medC; rw [hok]; rfl
    clear hok hrng
    go_enter Try.func13, Try.ntmps13
    go_wp2_with (go_at_call 47; refine (l04Ok_any _ l _ hlen HV.out).mono ?_; rw [HOK.out]; rintro e w1 ⟨rfl, hb1⟩)
    go_ret2
    exact ⟨0, by rw [HC.out]; rfl, by show fb 0 = _; rw [HR.out]; exact fb0, hb1⟩
  · have HOK := Lib.hid hok
    have HGD := Lib.hid (good_of hok hrng)
    have hl40 : l.length ≤ 40 := by
      unfold okR at hok
      rw [Bool.and_eq_true] at hok
      exact of_decide_eq_true hok.1
    have HF : Hid (medF l = if (allL l l.length).length = 0 then some 0 else medV (srtL l)) := by show _ = _; unfold medF; rw [hok]; rfl
    have HC : Hid (medC l = if (allL l l.length).length = 0 then 6 else 0) := by show _ = _; unfold medC; rw [hok]; rfl
    clear hok hrng
    obtain ⟨i0, hi, hz0, hz1, hz2⟩ := info_parts Try.info24
    have hgt := order_gt
    go_enter Try.func13, Try.ntmps13
    go_wp2_with (go_at_call 47; refine (l04Ok_any _ l _ hlen HV.out).mono ?_; rw [HOK.out]; rintro e w1 ⟨rfl, hb1⟩)
    have HB1 := Lib.hid hb1
    clear hb1
    go_wp2_with fail
    go_loopw [4, 5] (fun v4 v5 wr => LgRel l w v4 v5 wr) (fun _ v5 _ => l.length - (intOf v5).toNat)
    case atStart => exact ⟨0, _, _, Nat.zero_le _, rfl, rfl, owns_monoN (World.ownsRow_lit w1 #[] 0 (Nat.le_refl _) (by simp [maxLen]) rfl) HB1.out.size, (HB1.out).alloc HB1.out.size _⟩
    case round =>
      obtain ⟨j, gq, cp, hj, rfl, rfl, hown, hBB⟩ := hrel
      have HO := Lib.hid hown
      have HBX := Lib.hid hBB
      have hbs := hBB.size
      clear hown hBB
      by_cases hlt : j < l.length
      · obtain ⟨e, he⟩ : ∃ e, l[j]? = some e := ⟨_, List.getElem?_eq_getElem hlt⟩
        have HE := Lib.hid he
        have HGE := Lib.hid (HGD.out e (List.mem_of_getElem? he))
        have c0 : wr.cell? ⟨g0, j * 2, none⟩ = some (.int .i64 e.t) := by
          have := range_below (HROW.out j e he) HBX.out 0 (.int .i64 e.t) rfl
          exact this
        have j1 : (j : Int) < (l.length : Int) := by omega
        have j0 : (0 : Int) ≤ (j : Int) := by omega
        obtain ⟨y, hy⟩ : ∃ y, lnE e = y := ⟨_, rfl⟩
        have HLN : Hid (∀ w', Calls Try.prog 48 #[.float .f32 (floatOfInt FloatKind.f32 e.t)] w' (RetF y w')) := fun w' => by rw [← hy]; exact l03LnH_any _ (ofI e.t) w' (Is.ofI e.t) (high_ofI HGE.out.1.1 HGE.out.1.2)
        have HYB : Hid (y = some (lnB e)) := by show _ = _; rw [← hy]; exact (lnB_of HGE.out).1
        have hjl : j ≤ 40 := by omega
        clear he hy
        go_wp2_with (first | (go_at_call 48; (with_reducible refine (HLN.out _).mono ?_); rintro e2 w2 ⟨r, rfl, hr, hb2⟩) | (at_builtin; refine wpList_append_lies _ rfl _ _ _ rfl w.heap.size 24 i0 (.float .f32 0) 1 4 Try.underlying77 hi hz0 hz1 hz2 rfl (by decide) _ _ _ rfl ((owns_belowN HO.out hb2).alloc _) ⟨w2.heap.size, 0, none⟩ 1 1 [.float .f32 r] (by rfl) (by rfl) (cell_one_new _ _ _) (by simp [Value.oneCell']) (by decide) (by unfold maxLen; omega) (by omega) (by have := hb2.size; simp; omega) _ rfl ?_; intro gA capA w3 hown3 hgrow hat hlt3))
        have er : r = lnB e := (fb_num (by rw [← HYB.out]; exact hr.out)).1
        refine ⟨⟨j + 1, gA, capA, by omega, by go_num, rfl, ?_, ?_⟩, by simp [intOf]; omega⟩
        · rw [lgL_more HE.out, flts_snoc, ← er]
          exact hown3
        · exact ((below_next HBX.out hb2).alloc (Nat.le_trans hbs hb2.size) _).grown hgrow (by have := hb2.size; simp; omega) (fun q hq => (HO.out.lt q hq).1)
      · have j1 : ¬ (j : Int) < (l.length : Int) := by omega
        obtain rfl : j = l.length := by omega
        go_wp2_with fail
        go_loopw [6, 7] (fun v6 v7 wr' => OvRel l w gq cp v6 v7 wr') (fun _ v7 _ => l.length - (intOf v7).toNat)
        case atStart => exact ⟨0, _, _, Nat.zero_le _, rfl, rfl, owns_monoN (World.ownsRow_lit wr #[] 0 (Nat.le_refl _) (by simp [maxLen]) rfl) hbs, by have := (HO.out.lt gq rfl).2; omega, owns_belowN HO.out ((Below.refl _ _).alloc (Nat.le_refl _) _), (HBX.out).alloc hbs _⟩
        case round =>
          obtain ⟨i, g1, c1, hi1, rfl, rfl, hown, hne, hlog, hBB⟩ := hrel
          have HO1 := Lib.hid hown
          have HL1 := Lib.hid hlog
          have HX1 := Lib.hid hBB
          have hbs1 := hBB.size
          clear hown hlog hBB HO HBX hbs
          by_cases hlt : i < l.length
          · obtain ⟨e, he⟩ : ∃ e, l[i]? = some e := ⟨_, List.getElem?_eq_getElem hlt⟩
            have HE := Lib.hid he
            have HGE := Lib.hid (HGD.out e (List.mem_of_getElem? he))
            have k1 : (i : Int) < (l.length : Int) := by omega
            have k0 : (0 : Int) ≤ (i : Int) := by omega
            clear he
            go_wp2_with fail
            go_loopw [6, 8] (fun v6 v8 wr' => IvRel l w gq cp i v6 v8 wr') (fun _ v8 _ => l.length - (intOf v8).toNat)
            case atStart => exact ⟨i + 1, g1, c1, allL l i, Nat.le_refl _, by omega, by go_num, by rw [rowL_low l i (i + 1) (Nat.le_refl _), List.append_nil], rfl, HO1.out, hne, HL1.out, HX1.out⟩
            case round =>
              obtain ⟨k, g2, c2', L, hik, hkn, rfl, hL, rfl, hown2, hne2, hlog2, hBB2⟩ := hrel
              have HO2 := Lib.hid hown2
              have HL2 := Lib.hid hlog2
              have HX2 := Lib.hid hBB2
              have HLL := Lib.hid hL
              have hbs2 := hBB2.size
              clear hown2 hlog2 hBB2 hL HO1 HL1 HX1
              have hlL : L.length ≤ 100000 := by
                rw [HLL.out, List.length_append]
                have h1 := allL_len l i
                have h2 := rowL_len l i k
                have h3 : l.length * i ≤ 40 * 40 := Nat.mul_le_mul hl40 (by omega)
                omega
              by_cases hlt2 : k < l.length
              · obtain ⟨b, hb⟩ : ∃ b, l[k]? = some b := ⟨_, List.getElem?_eq_getElem hlt2⟩
                have HEB := Lib.hid hb
                have HGB := Lib.hid (HGD.out b (List.mem_of_getElem? hb))
                have m1 : (k : Int) < (l.length : Int) := by omega
                have m0 : (0 : Int) ≤ (k : Int) := by omega
                have hRe := rAt_of HE.out
                have hRb := rAt_of HEB.out
                have HRW0 : Hid (upB e b = false → rowL l i (k + 1) = rowL l i k) := fun h => rowL_no (l := l) (i := i) (k := k) (by rw [hRe, hRb]; exact h)
                have HRW1 : Hid (upB e b = true → rowL l i (k + 1) = rowL l i k ++ [slN e b]) := fun h => by
                  have := rowL_yes (l := l) (i := i) (k := k) (by omega) (by rw [hRe, hRb]; exact h)
                  rw [hRe, hRb] at this
                  exact this
                obtain ⟨xb, hxb⟩ : ∃ x, lnB b = x := ⟨_, rfl⟩
                obtain ⟨xe, hxe⟩ : ∃ x, lnB e = x := ⟨_, rfl⟩
                have qk : wr.cell? ⟨gq, k, none⟩ = some (.float .f32 xb) := by
                  rw [World.ownsRow.cellAt HL2.out k (by omega), lgL_at HEB.out, hxb]
                have qi : wr.cell? ⟨gq, i, none⟩ = some (.float .f32 xe) := by
                  rw [World.ownsRow.cellAt HL2.out i (by omega), lgL_at HE.out, hxe]
                have HFB : Hid (fb xb = some xb ∧ lnE b = some xb) := by rw [← hxb]; exact ⟨(lnB_of HGB.out).2, (lnB_of HGB.out).1⟩
                have HFE : Hid (fb xe = some xe ∧ lnE e = some xe) := by rw [← hxe]; exact ⟨(lnB_of HGE.out).2, (lnB_of HGE.out).1⟩
                have hgx : fgt (fb xb) (fb xe) = upB e b := by
                  rw [HFB.out.1, HFE.out.1]
                  unfold upB
                  rw [HFB.out.2, HFE.out.2]
                clear hb hRe hRb hxb hxe
                cases hup : upB e b
                · rw [hup] at hgx
                  have HLN : Hid (L = allL l i ++ rowL l i (k + 1)) := by show _ = _; rw [HRW0.out hup]; exact HLL.out
                  clear hup
                  go_wp2_with fail
                  go_quiet (fail)
                  go_wp2_with fail
                  exact ⟨⟨k + 1, g2, c2', L, by omega, by omega, by go_num, HLN.out, rfl, owns_belowN HO2.out (below_drawn (Below.refl _ _) _), hne2, owns_belowN HL2.out (below_drawn (Below.refl _ _) _), below_drawn HX2.out _⟩, by simp [intOf]; omega⟩
                · rw [hup] at hgx
                  have HLN : Hid (L ++ [slN e b] = allL l i ++ rowL l i (k + 1)) := by show _ = _; rw [HRW1.out hup, HLL.out, List.append_assoc]
                  obtain ⟨c2, hc2⟩ : ∃ c, dyF e b = some c := by obtain ⟨c, _, _, _, h1, _⟩ := dy_val HGE.out HGB.out; exact ⟨c, h1⟩
                  have HFC : Hid (fb c2 = some c2) := by
                    show _ = _
                    obtain ⟨c', _, _, _, h1, h2, _⟩ := dy_val HGE.out HGB.out
                    rw [hc2] at h1
                    cases h1
                    unfold fb fbOf
                    rw [h2]; rfl
                  obtain ⟨x, hx⟩ : ∃ x, dxF e b = some x := by obtain ⟨x, _, _, _, h1, _⟩ := (sub_to 72 (lnE_ok HGB.out) (lnE_ok HGE.out) (by omega) (by omega) (by omega) (by omega) : Le (dxF e b) 72); exact ⟨x, h1⟩
                  have HFX : Hid (fb x = some x) := by
                    show _ = _
                    obtain ⟨x', _, _, _, h1, h2, _⟩ := (sub_to 72 (lnE_ok HGB.out) (lnE_ok HGE.out) (by omega) (by omega) (by omega) (by omega) : Le (dxF e b) 72)
                    have h1 : dxF e b = some x' := h1
                    rw [hx] at h1
                    cases h1
                    unfold fb fbOf
                    rw [h2]; rfl
                  obtain ⟨sv, hsv⟩ : ∃ sv, (slN e b).1 = sv := ⟨_, rfl⟩
                  have HSV := Lib.hid hsv
                  have hquo : ∀ w', (binOp .quo 24 (.float .f32 c2) (.float .f32 x)).run Try.prog w' = .ok (.float .f32 sv) w' := by
                    have h1 := slN_of HGE.out HGB.out hup
                    unfold slF at h1
                    rw [hc2, hx, hsv] at h1
                    exact fun w' => run_arith_some (w := w') rfl (by show fdiv (fb c2) (fb x) = some sv; rw [HFC.out, HFX.out]; exact h1)
                  have hdx : ∀ w', (binOp .sub 24 (.float .f32 xb) (.float .f32 xe)).run Try.prog w' = .ok (.float .f32 x) w' := by
                    have h1 : fsub (lnE b) (lnE e) = some x := hx
                    rw [HFB.out.2, HFE.out.2] at h1
                    exact fun w' => run_arith_some (w := w') rfl (by show fsub (fb xb) (fb xe) = some x; rw [HFB.out.1, HFE.out.1]; exact h1)
                  obtain ⟨lb, hlb⟩ : ∃ y, levF b.l = y := ⟨_, rfl⟩
                  obtain ⟨le, hle⟩ : ∃ y, levF e.l = y := ⟨_, rfl⟩
                  have HVB : Hid (∀ w', Calls Try.prog 49 #[.agg #[.int .i64 b.t, .int .i16 b.l]] w' (RetF lb w')) := fun w' => by rw [← hlb]; exact l04Level_any b.t b.l w'
                  have HVE : Hid (∀ w', Calls Try.prog 49 #[.agg #[.int .i64 e.t, .int .i16 e.l]] w' (RetF le w')) := fun w' => by rw [← hle]; exact l04Level_any e.t e.l w'
                  have HD2 : Hid (fsub lb le = some c2) := by show _ = _; rw [← hlb, ← hle]; exact hc2
                  have rb := range_below (HROW.out k b HEB.out) HX2.out
                  have re := range_below (HROW.out i e HE.out) HX2.out
                  have a0 : wr.cell? ⟨g0, k * 2, none⟩ = some (.int .i64 b.t) := rb 0 (.int .i64 b.t) rfl
                  have a1 : wr.cell? ⟨g0, k * 2 + 1, none⟩ = some (.int .i16 b.l) := rb 1 (.int .i16 b.l) rfl
                  have a2 : wr.cell? ⟨g0, i * 2, none⟩ = some (.int .i64 e.t) := re 0 (.int .i64 e.t) rfl
                  have a3 : wr.cell? ⟨g0, i * 2 + 1, none⟩ = some (.int .i16 e.l) := re 1 (.int .i16 e.l) rfl
                  have KS : Hid (∀ w', Below wr.heap.size wr w' → w'.cell? ⟨g0, k * 2, none⟩ = some (.int .i64 b.t) ∧ w'.cell? ⟨g0, k * 2 + 1, none⟩ = some (.int .i16 b.l) ∧ w'.cell? ⟨g0, i * 2, none⟩ = some (.int .i64 e.t) ∧ w'.cell? ⟨g0, i * 2 + 1, none⟩ = some (.int .i16 e.l) ∧ w'.cell? ⟨gq, k, none⟩ = some (.float .f32 xb) ∧ w'.cell? ⟨gq, i, none⟩ = some (.float .f32 xe)) :=
                    fun w' hb => ⟨cell_below hb a0, cell_below hb a1, cell_below hb a2, cell_below hb a3, cell_below hb qk, cell_below hb qi⟩
                  have hg0l : g0 < w.heap.size := by
                    have := HROW.out i e HE.out 0 (.int .i64 e.t) rfl
                    exact block_lt_of_cell this
                  have hg2l : w.heap.size ≤ g2 := (HO2.out.lt g2 rfl).1
                  have hgql : gq < wr.heap.size := (HL2.out.lt gq rfl).2
                  clear hup hsv hlb hle hc2 hx rb re
                  go_wp2_with fail
                  go_quiet (fail)
                  go_wp2_with fail
                  go_region_held3 (fun w' => w'.cell? ⟨g0, k * 2, none⟩ = some (.int .i64 b.t) ∧ w'.cell? ⟨g0, k * 2 + 1, none⟩ = some (.int .i16 b.l) ∧ w'.cell? ⟨g0, i * 2, none⟩ = some (.int .i64 e.t) ∧ w'.cell? ⟨g0, i * 2 + 1, none⟩ = some (.int .i16 e.l) ∧ w'.cell? ⟨gq, k, none⟩ = some (.float .f32 xb) ∧ w'.cell? ⟨gq, i, none⟩ = some (.float .f32 xe)) (first | exact KS.out _ (below_next (below_drew (below_drawn (Below.refl wr.heap.size wr) _)) hb10) | exact KS.out _ (below_next (below_next (below_drew (below_drawn (Below.refl wr.heap.size wr) _)) hb10) hb11) | exact KS.out _ ((below_next (below_next (below_drew (below_drawn (Below.refl wr.heap.size wr) _)) hb10) hb11).alloc (Nat.le_trans hb10.size hb11.size) _) | exact ⟨p0, p1, p2, p3, p4, p5⟩ | exact KS.out _ (below_drew (below_drawn (Below.refl wr.heap.size wr) _)) | exact KS.out _ (below_drawn (Below.refl wr.heap.size wr) _) | go_keep) (first | (go_at_call 49; (with_reducible refine (HVB.out _).mono ?_); rintro e10 w10 ⟨q1, rfl, hq1, hb10⟩) | (go_at_call 49; (with_reducible refine (HVE.out _).mono ?_); rintro e11 w11 ⟨q2, rfl, hq2, hb11⟩; have hsub : ∀ w', (binOp .sub 24 (.float .f32 q1) (.float .f32 q2)).run Try.prog w' = .ok (.float .f32 c2) w' := fun w' => run_arith_some (w := w') rfl (by rw [← HD2.out]; show fsub _ _ = _; rw [hq1.out, hq2.out])) | (have hh := below_next (below_next (below_drew (below_drawn (Below.refl wr.heap.size wr) _)) hb10) hb11; refine step_append_lies _ rfl _ _ 77 rfl w.heap.size 24 i0 (.float .f32 0) 1 4 Try.underlying77 hi hz0 hz1 hz2 rfl (by decide) _ _ _ rfl ((owns_belowN HO2.out hh).alloc _) ⟨w11.heap.size, 0, none⟩ 1 1 [.float .f32 sv] rfl rfl (cell_one_new _ _ _) (by simp [Value.oneCell']) (by decide) (by unfold maxLen; omega) (by omega) (by have h9 : w.heap.size ≤ w11.heap.size := Nat.le_trans hbs2 hh.size; simp; omega) _ rfl ?_; intro gA capA w12 hown12 hgrow hat hlt12; have h911 : Below wr.heap.size wr (w11.alloc (.cells #[.float .f32 sv] 24)) := hh.alloc hh.size _; have HX12 : Below w.heap.size w w12 := (below_next HX2.out h911).grown hgrow (Nat.le_trans hbs2 h911.size) (fun q hq => (HO2.out.lt q hq).1); have hL12 := owns_farN (r := g2) (owns_belowN HL2.out h911) hgrow (fun q hq => by have e1 : gq = q := Option.some.inj hq; omega); have hcur := fun (g o : Nat) (v : Value) (hne : g ≠ g2) (hc : wr.cell? ⟨g, o, none⟩ = some v) => (World.cell?_of_block (w := w11.alloc (.cells #[.float .f32 sv] 24)) (w' := w12) (a := ⟨g, o, none⟩) (hgrow.block g (block_lt_of_cell (cell_below h911 hc)) (fun hq => hne (Option.some.inj hq)))).trans (cell_below h911 hc); have p0 := hcur _ _ _ (by omega) a0; have p1 := hcur _ _ _ (by omega) a1; have p2 := hcur _ _ _ (by omega) a2; have p3 := hcur _ _ _ (by omega) a3; have p4 := hcur _ _ _ (by omega) qk; have p5 := hcur _ _ _ (by omega) qi))
                  have HO12 : Hid (w12.ownsRow w.heap.size 24 1 (.slice (some ⟨gA, 0, none⟩) (L.length + 1) capA) (L ++ [slN e b]).length (numL (L ++ [slN e b]))) := by
                    show World.ownsRow _ _ _ _ _ _ _
                    rw [numL_more, HSV.out, List.length_append]
                    exact hown12
                  have hAB : gA ≠ gq := by
                    have h9 := hh.size
                    rcases hat with h | h
                    · have e1 : g2 = gA := Option.some.inj h
                      omega
                    · simp at h
                      omega
                  have HL13 := Lib.hid hL12
                  have HX13 := Lib.hid HX12
                  clear hown12 hgrow hat HX12 hL12 h911 hsub hquo hdx hq1 hq2 hb10 hb11 hh hcur p0 p1 p2 p3 p4 p5
                  go_wp2_with fail
                  go_roundw
                  case rel => exact ⟨k + 1, gA, capA, L ++ [slN e b], by omega, by omega, by go_num, HLN.out, by rw [List.length_append]; rfl, HO12.out, hAB, HL13.out, HX13.out⟩
                  case measure => simp [intOf]; omega
              · have m1 : ¬ (k : Int) < (l.length : Int) := by omega
                have hk : k = l.length := by omega
                have HAL : Hid (L = allL l (i + 1)) := by show _ = _; rw [HLL.out, hk]; rfl
                go_wp2_with fail
                go_roundw
                case rel => exact ⟨i + 1, g2, c2', by omega, by go_num, by rw [← HAL.out], by rw [← HAL.out]; exact HO2.out, hne2, HL2.out, HX2.out⟩
                case measure => simp [intOf]; omega
          · have k1 : ¬ (i : Int) < (l.length : Int) := by omega
            obtain rfl : i = l.length := by omega
            obtain ⟨N, hN⟩ : ∃ N, (allL l l.length).length = N := ⟨_, rfl⟩
            have hN2 : N ≤ 1600 := by
              rw [← hN]
              exact Nat.le_trans (allL_len l l.length) (Nat.mul_le_mul hl40 hl40)
            have hcell : ∀ j, j < N → wr.cell? ⟨g1, 0 + j, none⟩ = some (.float .f32 ((allL l l.length).toArray[j]!).1) := by
              intro j hj
              obtain ⟨hH, _⟩ := holds_of_owns HO1.out
              exact (hH j (by rw [List.size_toArray, hN]; exact hj)).1
            have HCE := Lib.hid hcell
            have hds : (allL l l.length).toArray.size = N := by rw [List.size_toArray]; exact hN
            have HDS := Lib.hid hds
            have HF2 : Hid (medF l = if N = 0 then some 0 else medV (srtL l)) := by show _ = _; rw [HF.out, hN]
            have HC2 : Hid (medC l = if N = 0 then 6 else 0) := by show _ = _; rw [HC.out, hN]
            clear HF HC HO1 HL1 hcell
            rw [hN]
            clear hN hds
            by_cases h0 : N = 0
            · subst h0
              go_wp2_with fail
              go_ret2
              exact ⟨0, by rw [HC2.out]; rfl, by show fb 0 = _; rw [HF2.out]; exact fb0, HX1.out⟩
            · have b0 : ((N : Int) == 0) = false := by simpa using h0
              have b1 : ¬ (N : Int) = 0 := by omega
              go_wp2_with fail
              have hsrt := l04Sort_any g1 c1 (allL l l.length).toArray wr (by rw [HDS.out]; omega) (by rw [HDS.out]; omega) (by rw [HDS.out]; exact HCE.out)
              rw [HDS.out] at hsrt
              refine hsrt.mono ?_
              rintro e w2 ⟨u, d', rfl, hown, hb2, hperm, hsort⟩
              have HSR : Hid (d'.toList = srtL l) := srt_of hperm hsort
              have hd' : d'.size = N := by have := hperm.1; rw [HDS.out] at this; exact this
              have HSL : Hid ((srtL l).length = N) := by show _ = _; rw [← HSR.out, Array.length_toList]; exact hd'
              have HB2 := Lib.hid (below_next HX1.out hb2)
              obtain ⟨gu, cu, rfl⟩ : ∃ gu cu, u = .slice (some ⟨gu, 0, none⟩) N cu := by
                obtain ⟨_, h2 | ⟨g, cap', cur, he, _⟩⟩ := hown
                · exfalso; have := h2.2; omega
                · exact ⟨g, cap', by rw [he, hd']⟩
              have HCL : Hid (∀ j, j < N → w2.cell? ⟨gu, j, none⟩ = some (.float .f32 ((srtL l).getD j default).1)) := by
                show ∀ _, _
                intro j hj
                rw [hd'] at hown
                rw [nums_at hown hd' hj, ← HSR.out, getElem!_pos d' j (by omega)]
                simp [List.getD, hd', hj]
              clear hown hb2 hperm hsort hsrt hd'
              have HC3 : Hid (medC l = 0) := by show _ = _; rw [HC2.out, if_neg h0]
              have HF3 : Hid (medF l = medV (srtL l)) := by show _ = _; rw [HF2.out, if_neg h0]
              obtain ⟨h, hh⟩ : ∃ h, N / 2 = h := ⟨_, rfl⟩
              have f1 : (N : Int) / 2 = (h : Int) := by omega
              have f1' : (N : Int).tdiv 2 = (h : Int) := by rw [← hh]; rfl
              have wh : IntKind.i64.wrap (h : Int) = (h : Int) := by simp only [IntKind.wrap, IntKind.bits, IntKind.signed]; simp; omega
              have l0 : (0 : Int) ≤ (h : Int) := by omega
              have l1 : (h : Int) < (N : Int) := by omega
              have c0 := HCL.out h (by omega)
              by_cases hodd : N % 2 = 1
              · have t1 : (N : Int) % 2 = 1 := by omega
                have t1' : (N : Int).tmod 2 = 1 := by rw [show (N : Int).tmod 2 = ((N % 2 : Nat) : Int) from rfl, hodd]; rfl
                have HV : Hid (medF l = some ((srtL l).getD h default).1) := by
                  show _ = _
                  rw [HF3.out]
                  unfold medV
                  rw [HSL.out, if_pos hodd, hh]
                generalize ((srtL l).getD h default) = x at *
                have HX := Lib.hid (fb_nb x)
                generalize x.1 = xv at *
                go_wp2_with fail
                go_ret2
                exact ⟨xv, by rw [HC3.out]; rfl, by show fb xv = _; rw [HV.out]; exact HX.out, HB2.out⟩
              · have t1 : (N : Int) % 2 = 0 := by omega
                have t1' : (N : Int).tmod 2 = 0 := by rw [show (N : Int).tmod 2 = ((N % 2 : Nat) : Int) from rfl, show N % 2 = 0 by omega]; rfl
                have HV : Hid (medF l = fdiv (fadd (some ((srtL l).getD (h - 1) default).1) (some ((srtL l).getD h default).1)) two) := by
                  show _ = _
                  rw [HF3.out]
                  unfold medV
                  rw [HSL.out, if_neg hodd, hh]
                obtain ⟨g, hg⟩ : ∃ g, h - 1 = g := ⟨_, rfl⟩
                have wm : IntKind.i64.wrap ((h : Int) - 1) = (g : Int) := by
                  rw [show (h : Int) - 1 = (g : Int) by omega]
                  simp only [IntKind.wrap, IntKind.bits, IntKind.signed]; simp; omega
                have g0' : (0 : Int) ≤ (g : Int) := by omega
                have g1' : (g : Int) < (N : Int) := by omega
                have c1 := HCL.out g (by omega)
                rw [hg] at HV
                generalize ((srtL l).getD h default) = x at *
                generalize ((srtL l).getD g default) = y at *
                have HX := Lib.hid (fb_nb x)
                have HY := Lib.hid (fb_nb y)
                generalize x.1 = xv at *
                generalize y.1 = yv at *
                have e0 : ∀ z, (ext w2 z).cell? ⟨gu, h, none⟩ = some (.float .f32 xv) := fun z => ext_cell w2 z c0
                have e1 : ∀ z, (ext w2 z).cell? ⟨gu, g, none⟩ = some (.float .f32 yv) := fun z => ext_cell w2 z c1
                clear hg hh hodd c0 c1
                go_wp2_with fail
                refine wp_soft (SF (some 0)) (by kernel_rfl) (by kernel_rfl) ?_
                repeat (first | (refine soft_arith (fun _ n h => h.drewN n) _ _ rfl rfl rfl ?_; intro r7 hr7) | (refine soft_step (fun K hK => ?_); go_simp; (try go_bits); refine hK _ ?_; clear hK K))
                refine soft_nil ?_
                rintro w5 hw5
                rename_i ra hra
                have HB5 := Lib.hid (below_next HB2.out hw5.below)
                have HR : Hid (Is r7 (medF l)) := by
                  show Is _ _
                  rw [HV.out]
                  exact hr7.op (hra.op HY.out HX.out) rfl
                clear hw5 hr7 hra
                go_wp2_with fail
                go_ret2
                exact ⟨r7, by rw [HC3.out]; rfl, HR.out, HB5.out⟩
end Go.Proofs.Ytonmdkhfongmhaa

namespace Go.Proofs.Ytonmdkhfongmhaa
open Go.RowKit

set_option maxRecDepth 100000 in
set_option maxHeartbeats 3200000 in
theorem law_MedianSlope (v : Value) (l : List Rd) (w : World) (hlen : l.length < 9223372036854775808) (hv : RLAt w v l) :
    Calls Try.prog 3 #[v] w (RetB true w) := by
  have hrng := hv.rng
  have HV0 := Lib.hid hv
  clear hv
  by_cases hsz : l.length ≤ 1048576
  · obtain ⟨R, hR⟩ : ∃ R, medF l = R := ⟨_, rfl⟩
    obtain ⟨c, hc⟩ : ∃ c, medC l = c := ⟨_, rfl⟩
    have HRR := Lib.hid hR
    have HCC := Lib.hid hc
    clear hR hc
    have n0 : ¬ (1048576 : Int) - (l.length : Int) < 0 := by omega
    go_enter Try.func3, Try.ntmps3
    go_wp2_with fail
    refine (szReadingS_any v l _ hlen HV0.out).mono ?_
    rw [if_pos hsz]
    rintro e w' ⟨rfl, rfl⟩
    go_wp2_with fail
    refine (toReadingS_any v l w hsz HV0.out).mono ?_
    rintro e w1 ⟨B1, rfl, hB1, hW1, hb1⟩
    have HW1 := Lib.hid hW1
    have HB1 := Lib.hid hb1
    clear hW1 hb1
    go_wp2_with fail
    refine (specMedianSlope_any B1 l w1 hsz (HW1.out.at' hrng)).mono ?_
    unfold RetMed
    rw [HRR.out, HCC.out]
    rintro e w2 ⟨r0, rfl, hr0, hb2⟩
    have HR0 := Lib.hid hr0
    have HB2 := Lib.hid (below_next HB1.out hb2)
    clear hb2 hr0
    go_wp2_with fail
    refine (toReadingS_any v l w2 hsz (HV0.out.far HB2.out)).mono ?_
    rintro e w3 ⟨B3, rfl, hB3, hW3, hb3⟩
    have HW3 := Lib.hid hW3
    have HB3 := Lib.hid (below_next HB2.out hb3)
    clear hW3 hb3
    go_wp2_with fail
    refine (MedianSlope_any B3 l w3 hsz (HW3.out.at' hrng)).mono ?_
    unfold RetMed
    rw [HRR.out, HCC.out]
    rintro e w4 ⟨r1, rfl, hr1, hb4⟩
    have HR1 := Lib.hid hr1
    have HB4 := Lib.hid (below_next HB3.out hb4)
    have HW4 := Lib.hid (HW3.out.far hb4)
    clear hb4 hr1
    go_wp2_with ((with_reducible refine wpList_wideG ?_ ?_ ?_ ?_ ?_); (exact rfl); (exact rfl); (exact Try.underlying30); (exact rfl); intro d n hd)
    rename_i d1 n1 hd1 _ _
    refine (sameFloat_any _ _ _ (by rw [hd1.out, hd.out]; exact congrArg wid (HR1.out.out.trans HR0.out.out.symm))).mono ?_
    rintro e w5 ⟨rfl, hb5⟩
    have HB5 := Lib.hid (below_next (below_drawn HB4.out _) hb5)
    have HW5 := Lib.hid (HW4.out.far (below_next (below_drawn (Below.refl _ _) _) hb5))
    clear hb5
    go_wp2_with fail
    refine (toReadingS_any v l w5 hsz (HV0.out.far HB5.out)).mono ?_
    rintro e w6 ⟨B6, rfl, hB6, hW6, hb6⟩
    have HW6 := Lib.hid hW6
    have HW56 := Lib.hid (HW5.out.far hb6)
    have HB6 := Lib.hid (below_next HB5.out hb6)
    clear hW6 hb6
    go_wp2_with fail
    refine (eqReadingS_any _ _ l w6 hsz (HW56.out.at' hrng) (HW6.out.at' hrng)).mono ?_
    rintro e w7 ⟨rfl, hb7⟩
    have HB7 := Lib.hid (below_next HB6.out hb7)
    clear hb7
    go_wp2_with fail
    go_ret
    exact ⟨rfl, HB7.out⟩
  · have n0 : ((-1 : Int) < 0) := by decide
    go_enter Try.func3, Try.ntmps3
    go_wp2_with fail
    refine (szReadingS_any v l _ hlen HV0.out).mono ?_
    rw [if_neg hsz]
    rintro e w' ⟨rfl, rfl⟩
    go_wp2_with fail
    go_ret
    exact ⟨rfl, Below.refl _ _⟩
end Go.Proofs.Ytonmdkhfongmhaa
