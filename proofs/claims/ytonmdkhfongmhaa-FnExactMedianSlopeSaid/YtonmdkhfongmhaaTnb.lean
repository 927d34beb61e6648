/- Numbers that are not NaN: their order by their bits; the comparison that the program sorts by. -/
import Derived.Test.YtonmdkhfongmhaaTlogw
import Derived.Sort.LotA
namespace Go.Proofs.Ytonmdkhfongmhaa
open Go.RowKit Go.Sort

def keyS (s : Bool) (r : Nat) : Int := if s then -(r : Int) else r
theorem cmp_congr {X Y X' Y' : Int} (h1 : X < Y ↔ X' < Y') (h2 : X = Y ↔ X' = Y') : compare X Y = compare X' Y' := by
  show compareOfLessAndEq X Y = compareOfLessAndEq X' Y'
  unfold compareOfLessAndEq
  simp only [h1, h2]
/-- The value of a finite number without a sign. -/
theorem word_val {r : Nat} (h : r < 2139095040) : ∃ v : Nat, Val (some r) v ∧ ∀ s, Val (some (Ieee.single.word s r)) (keyS s v) := by
  obtain ⟨m, e, h1, h2, h3, h4⟩ := read_word_of false h
  refine ⟨m <<< (e + 149).toNat, ⟨r, false, m, e, rfl, h1, h3, rfl⟩, fun s => ?_⟩
  obtain ⟨m', e', k1, k2, k3, k4⟩ := read_word_of s h
  have : m' = m ∧ e' = e := by omega
  obtain ⟨rfl, rfl⟩ := this
  refine ⟨_, s, m', e', rfl, k1, k3, ?_⟩
  unfold keyS Ieee.signed
  cases s <;> rfl
theorem read_inf (s : Bool) : Ieee.single.read (Ieee.single.word s 2139095040) = .infinity s := by cases s <;> decide
theorem ford_key {s t : Bool} {r q : Nat} (hr : r ≤ 2139095040) (hq : q ≤ 2139095040) : ford (some (Ieee.single.word s r)) (some (Ieee.single.word t q)) = some (compare (keyS s r) (keyS t q)) := by
  rcases Nat.lt_or_ge r 2139095040 with h1 | h1
  · obtain ⟨v, hv0, hv⟩ := word_val h1
    rcases Nat.lt_or_ge q 2139095040 with h2 | h2
    · obtain ⟨u, hu0, hu⟩ := word_val h2
      rw [ford_val (hv s) (hu t)]
      congr 1
      have hz : Val (some 0) 0 := ⟨0, false, 0, -149, rfl, read0, by omega, rfl⟩
      have a1 : r < q → v < u := fun h => by have := gd_rise h1 h2 hv0 hu0 h; omega
      have a2 : q < r → u < v := fun h => by have := gd_rise h2 h1 hu0 hv0 h; omega
      have a3 : r = q → v = u := fun h => by subst h; have := val_inj hv0 hu0; omega
      have a4 : 0 < r → 0 < v := fun h => by have := gd_rise (by omega) h1 hz hv0 h; omega
      have a5 : 0 < q → 0 < u := fun h => by have := gd_rise (by omega) h2 hz hu0 h; omega
      have a6 : r = 0 → v = 0 := fun h => by subst h; have := val_inj hv0 hz; omega
      have a7 : q = 0 → u = 0 := fun h => by subst h; have := val_inj hu0 hz; omega
      unfold keyS
      rcases Nat.lt_trichotomy r q with h | h | h
      · have := a1 h
        cases s <;> cases t <;> refine cmp_congr ⟨fun _ => ?_, fun _ => ?_⟩ ⟨fun _ => ?_, fun _ => ?_⟩ <;> simp at * <;> omega
      · have := a3 h
        cases s <;> cases t <;> refine cmp_congr ⟨fun _ => ?_, fun _ => ?_⟩ ⟨fun _ => ?_, fun _ => ?_⟩ <;> simp at * <;> omega
      · have := a2 h
        cases s <;> cases t <;> refine cmp_congr ⟨fun _ => ?_, fun _ => ?_⟩ ⟨fun _ => ?_, fun _ => ?_⟩ <;> simp at * <;> omega
    · obtain rfl : q = 2139095040 := by omega
      obtain ⟨m, e, k1, _⟩ := read_word_of s h1
      show (Ieee.single.read _).order (Ieee.single.read _) = _
      rw [k1, read_inf]
      unfold keyS
      cases t
      · have : compare (if s = true then -(r : Int) else (r : Int)) (if false = true then -((2139095040 : Nat) : Int) else ((2139095040 : Nat) : Int)) = .lt := by
          rw [Int.compare_eq_lt]; cases s <;> simp <;> omega
        rw [this]; rfl
      · have : compare (if s = true then -(r : Int) else (r : Int)) (if true = true then -((2139095040 : Nat) : Int) else ((2139095040 : Nat) : Int)) = .gt := by
          rw [Int.compare_eq_gt]; cases s <;> simp <;> omega
        rw [this]; rfl
  · obtain rfl : r = 2139095040 := by omega
    rcases Nat.lt_or_ge q 2139095040 with h2 | h2
    · obtain ⟨m, e, k1, _⟩ := read_word_of t h2
      show (Ieee.single.read _).order (Ieee.single.read _) = _
      rw [k1, read_inf]
      unfold keyS
      cases s
      · have : compare (if false = true then -((2139095040 : Nat) : Int) else ((2139095040 : Nat) : Int)) (if t = true then -(q : Int) else (q : Int)) = .gt := by
          rw [Int.compare_eq_gt]; cases t <;> simp <;> omega
        rw [this]; rfl
      · have : compare (if true = true then -((2139095040 : Nat) : Int) else ((2139095040 : Nat) : Int)) (if t = true then -(q : Int) else (q : Int)) = .lt := by
          rw [Int.compare_eq_lt]; cases t <;> simp <;> omega
        rw [this]; rfl
    · obtain rfl : q = 2139095040 := by omega
      show (Ieee.single.read _).order (Ieee.single.read _) = _
      rw [read_inf, read_inf]
      cases s <;> cases t <;> decide

/-- Bits of a number that is not NaN and not the zero with a sign. -/
def NbOk (b : Nat) : Prop := ∃ s r, b = Ieee.single.word s r ∧ r ≤ 2139095040 ∧ ¬ (s = true ∧ r = 0)
def NB : Type := { b : Nat // NbOk b }
instance : Inhabited NB := ⟨⟨0, false, 0, rfl, by omega, by simp⟩⟩
def encN (x : NB) : Value := .float .f32 x.1
def keyB (b : Nat) : Int := if b < 2147483648 then b else 2147483648 - (b : Int)
theorem keyB_word {s : Bool} {r : Nat} (h : r ≤ 2139095040) : keyB (Ieee.single.word s r) = keyS s r := by
  unfold keyB keyS
  cases s
  · rw [word_f]; simp; omega
  · rw [word_t]; simp; omega
def ltN (x y : NB) : Bool := decide (keyB x.1 < keyB y.1)
theorem swo_ltN : SWO ltN where
  irrefl x := by simp [ltN]
  trans x y z h1 h2 := by simp only [ltN, decide_eq_true_eq] at *; omega
  ntrans x y z h1 h2 := by simp only [ltN, decide_eq_false_iff_not] at *; omega
theorem anti_ltN (x y : NB) (h1 : ltN x y = false) (h2 : ltN y x = false) : x = y := by
  obtain ⟨a, s, r, rfl, hr, hz⟩ := x
  obtain ⟨b, t, q, rfl, hq, hz2⟩ := y
  simp only [ltN, decide_eq_false_iff_not] at h1 h2
  rw [keyB_word hr, keyB_word hq] at h1 h2
  unfold keyS at h1 h2
  refine Subtype.ext ?_
  show Ieee.single.word s r = Ieee.single.word t q
  cases s <;> cases t <;> simp at h1 h2 hz hz2
  · rw [word_f, word_f]; omega
  · exfalso; omega
  · exfalso; omega
  · rw [word_t, word_t]; omega
theorem fb_word {s : Bool} {r : Nat} (hr : r ≤ 2139095040) : fb (Ieee.single.word s r) = some (Ieee.single.word s r) := by
  show fbOf _ _ = _
  unfold fbOf
  rw [read_word Ieee.single s hr]; rfl
theorem fb_nb (x : NB) : fb x.1 = some x.1 := by
  obtain ⟨a, s, r, rfl, hr, _⟩ := x
  exact fb_word hr
theorem ford_nb (x y : NB) : ford (fb x.1) (fb y.1) = some (compare (keyB x.1) (keyB y.1)) := by
  rw [fb_nb, fb_nb]
  obtain ⟨a, s, r, rfl, hr, _⟩ := x
  obtain ⟨b, t, q, rfl, hq, _⟩ := y
  show ford (some (Ieee.single.word s r)) (some (Ieee.single.word t q)) = _
  rw [ford_key hr hq, keyB_word hr, keyB_word hq]
theorem flt_nb (x y : NB) : flt (fb x.1) (fb y.1) = ltN x y := by
  unfold flt ltN
  rw [ford_nb]
  by_cases h : keyB x.1 < keyB y.1
  · rw [decide_eq_true h, Int.compare_eq_lt.2 h]; rfl
  · rw [decide_eq_false h]
    cases hc : compare (keyB x.1) (keyB y.1) with
    | lt => exact absurd (Int.compare_eq_lt.1 hc) h
    | eq => rfl
    | gt => rfl
theorem fgt_nb (x y : NB) : fgt (fb x.1) (fb y.1) = ltN y x := by
  unfold fgt ltN
  rw [ford_nb]
  by_cases h : keyB y.1 < keyB x.1
  · rw [decide_eq_true h, Int.compare_eq_gt.2 h]; rfl
  · rw [decide_eq_false h]
    cases hc : compare (keyB x.1) (keyB y.1) with
    | lt => rfl
    | eq => rfl
    | gt => exact absurd (Int.compare_eq_gt.1 hc) h
theorem feq_nb (x : NB) : feq (fb x.1) (fb x.1) = true := feq_refl (fb_nb x)

/-- What the comparison tells. -/
def zN (x y : NB) : Int := if ltN x y = true then -1 else if ltN y x = true then 1 else 0
theorem zN_neg (x y : NB) : decide (zN x y < 0) = ltN x y := by
  unfold zN
  cases h : ltN x y
  · rw [if_neg (by decide)]
    split <;> rfl
  · rw [if_pos rfl]; rfl

set_option maxHeartbeats 400000 in
theorem cmpNaN_any (r : Nat) (w : World) : Calls Try.prog 93 #[.float .f32 r] w fun e w' => e = .returned (.bool (!feq (fb r) (fb r))) ∧ w = w' := by
  have heq' := order_eq
  go_enter Try.func93, Try.ntmps93
  go_wp2_with fail
  go_ret
  refine ⟨?_, rfl⟩
  rw [← order_eq]; rfl
set_option maxRecDepth 100000 in
set_option maxHeartbeats 800000 in
theorem Compare_any (x y : NB) (w : World) : Calls Try.prog 57 #[.float .f32 x.1, .float .f32 y.1] w fun e w' => e = .returned (.int .i64 (zN x y)) ∧ w = w' := by
  have hlt' := order_lt
  have hgt' := order_gt
  have f1 := flt_nb x y
  have f2 := fgt_nb x y
  have HX := Lib.hid (feq_nb x)
  have HY := Lib.hid (feq_nb y)
  obtain ⟨z, hz⟩ : ∃ z, zN x y = z := ⟨_, rfl⟩
  rw [hz]
  have HZ := Lib.hid hz
  clear hz
  obtain ⟨a, ha⟩ := x
  obtain ⟨b, hb⟩ := y
  cases h1 : ltN ⟨a, ha⟩ ⟨b, hb⟩
  · cases h2 : ltN ⟨b, hb⟩ ⟨a, ha⟩
    all_goals
      have HV := HZ.out
      unfold zN at HV
      rw [h1, h2] at HV
      rw [h1] at f1
      rw [h2] at f2
      have f1' : flt (fb a) (fb b) = _ := f1
      have f2' : fgt (fb a) (fb b) = _ := f2
      clear h1 h2 f1 f2 HZ
      have HV := Lib.hid HV
      go_enter Try.func57, Try.ntmps57
      go_wp2_with (go_at_call 93; refine (cmpNaN_any _ _).mono ?_; first | rw [HX.out] | rw [HY.out]; rintro e w1 ⟨rfl, rfl⟩)
      go_ret
      exact ⟨by rw [← HV.out]; rfl, rfl⟩
  · have HV := HZ.out
    unfold zN at HV
    rw [h1] at HV
    rw [h1] at f1
    have f1' : flt (fb a) (fb b) = _ := f1
    clear h1 f1 f2 HZ
    have HV := Lib.hid HV
    go_enter Try.func57, Try.ntmps57
    go_wp2_with (go_at_call 93; refine (cmpNaN_any _ _).mono ?_; first | rw [HX.out] | rw [HY.out]; rintro e w1 ⟨rfl, rfl⟩)
    go_ret
    exact ⟨by rw [← HV.out]; rfl, rfl⟩
set_option maxHeartbeats 400000 in
theorem cmpF_any (x y : NB) (w : World) : Calls Try.prog 56 #[.float .f32 x.1, .float .f32 y.1] w fun e w' => e = .returned (.int .i64 (zN x y)) ∧ w' = w := by
  go_enter Try.func56, Try.ntmps56
  go_wp2_with (go_at_call 57; refine (Compare_any x y _).mono ?_; rintro e w1 ⟨rfl, rfl⟩)
  go_ret
  exact ⟨rfl, rfl⟩
end Go.Proofs.Ytonmdkhfongmhaa
