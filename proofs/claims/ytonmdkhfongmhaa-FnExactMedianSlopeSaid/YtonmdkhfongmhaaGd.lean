/- Numbers that are finite and have no sign: their order is that of their bits; the least and the greatest of a list by the program. -/
import Derived.Test.YtonmdkhfongmhaaRnd
import Derived.Test.YtonmdkhfongmhaaWsum
import Derived.Test.YtonmdkhfongmhaaWfin
namespace Go.Proofs.Ytonmdkhfongmhaa
open Go.RowKit

/-- Finite, without a sign. -/
def Gd (x : F) : Prop := ∃ b, x = some b ∧ b < 2139095040
theorem gd_read {b : Nat} (h : b < 2139095040) : ∃ m e, Ieee.single.read b = .number false m e ∧ -149 ≤ e ∧ ((e = -149 ∧ m < 8388608) ∨ (8388608 ≤ m ∧ m < 16777216)) ∧ (e + 149).toNat * 8388608 + m = b := by
  obtain ⟨m, e, h1, h2, h3, h4⟩ := read_rung b (by omega)
  rw [Nat.div_eq_of_lt (by omega : b < 2147483648)] at h1
  exact ⟨m, e, h1, h3, h4, by omega⟩
theorem gd_val {b : Nat} (h : b < 2139095040) : ∃ v : Nat, Val (some b) v := by
  obtain ⟨m, e, h1, h2, _, _⟩ := gd_read h
  exact ⟨m * 2 ^ (e + 149).toNat, b, false, m, e, rfl, h1, h2, by rw [signed_eq]; rfl⟩
theorem gd_rise {a b : Nat} (ha : a < 2139095040) (hb : b < 2139095040) {v w : Int} (hv : Val (some a) v) (hw : Val (some b) w) (h : a < b) : v < w := by
  obtain ⟨m, e, r1, he, c1, s1⟩ := gd_read ha
  obtain ⟨n, f, r2, hf, c2, s2⟩ := gd_read hb
  obtain rfl := val_inj hv ⟨a, false, m, e, rfl, r1, he, rfl⟩
  obtain rfl := val_inj hw ⟨b, false, n, f, rfl, r2, hf, rfl⟩
  rw [signed_eq, signed_eq, if_neg (by decide), if_neg (by decide)]
  refine Int.ofNat_lt.2 ?_
  by_cases hq : (e + 149).toNat = (f + 149).toNat
  · rw [hq]
    exact Nat.mul_lt_mul_of_pos_right (by omega) (Nat.two_pow_pos _)
  · have h1 : (e + 149).toNat < (f + 149).toNat := by omega
    calc m * 2 ^ (e + 149).toNat < 16777216 * 2 ^ (e + 149).toNat := Nat.mul_lt_mul_of_pos_right (by omega) (Nat.two_pow_pos _)
      _ = 8388608 * 2 ^ ((e + 149).toNat + 1) := by rw [Nat.pow_succ]; omega
      _ ≤ 8388608 * 2 ^ (f + 149).toNat := Nat.mul_le_mul_left _ (Nat.pow_le_pow_right (by decide) h1)
      _ ≤ n * 2 ^ (f + 149).toNat := Nat.mul_le_mul_right _ (by omega)
theorem flt_gd {a b : Nat} (ha : a < 2139095040) (hb : b < 2139095040) : flt (some a) (some b) = decide (a < b) := by
  obtain ⟨v, hv⟩ := gd_val ha
  obtain ⟨w, hw⟩ := gd_val hb
  rw [flt_val hv hw]
  by_cases h : a < b
  · rw [decide_eq_true h, decide_eq_true (gd_rise ha hb hv hw h)]
  · rw [decide_eq_false h, decide_eq_false]
    intro h2
    rcases Nat.lt_or_ge b a with h3 | h3
    · have := gd_rise hb ha hw hv h3; omega
    · obtain rfl : a = b := by omega
      have := val_inj hv hw; omega
theorem feq_gd {a b : Nat} (ha : a < 2139095040) (hb : b < 2139095040) : feq (some a) (some b) = decide (a = b) := by
  obtain ⟨v, hv⟩ := gd_val ha
  obtain ⟨w, hw⟩ := gd_val hb
  rw [feq_val hv hw]
  by_cases h : a = b
  · subst h
    rw [decide_eq_true rfl, decide_eq_true (val_inj hv hw)]
  · rw [decide_eq_false h, decide_eq_false]
    intro h2
    rcases Nat.lt_or_ge b a with h3 | h3
    · have := gd_rise hb ha hw hv h3; omega
    · have := gd_rise ha hb hv hw (by omega); omega
theorem ford_gd {a b : Nat} (ha : a < 2139095040) (hb : b < 2139095040) : ford (some a) (some b) = some (compare a b) := by
  obtain ⟨v, hv⟩ := gd_val ha
  obtain ⟨w, hw⟩ := gd_val hb
  rw [ford_val hv hw]
  have h1 := flt_gd ha hb
  have h2 := feq_gd ha hb
  rw [flt_val hv hw] at h1
  rw [feq_val hv hw] at h2
  have h3 := (decide_eq_decide).1 h1
  have h4 := (decide_eq_decide).1 h2
  congr 1
  show compareOfLessAndEq (v : Int) (w : Int) = compareOfLessAndEq a b
  unfold compareOfLessAndEq
  simp only [h3, h4]
theorem fb_lt {x b : Nat} (h : fb x = some b) : x = b := by
  unfold fb fbOf at h
  split at h
  · cases h
  · cases h; rfl
theorem gd_neg {b : Nat} (h : b < 2139095040) : (FloatKind.f32.decode b).neg = false := by
  obtain ⟨m, e, h1, _⟩ := gd_read h
  show (Ieee.single.read b).neg = false
  rw [h1]; rfl

theorem run_min_gd {P : Program} {x y a b : Nat} (hx : fb x = some a) (hy : fb y = some b) (ha : a < 2139095040) (hb : b < 2139095040) (ts : Array TypeId) (t : TypeId) (w : World) :
    (Builtin.min_ ts t #[.float .f32 x, .float .f32 y]).run P w = .ok (.float .f32 (if b < a then b else a)) w := by
  obtain rfl := fb_lt hx
  obtain rfl := fb_lt hy
  have ho : FloatKind.f32.format.order x y = some (compare x y) := by rw [order32, hx, hy]; exact ford_gd ha hb
  have hn := gd_neg ha
  rcases Nat.lt_trichotomy x y with h | h | h
  · have e : compare x y = .lt := by rw [Nat.compare_eq_lt]; exact h
    rw [e] at ho
    simp [Builtin.min_, Builtin.min2, ho, show ¬ y < x by omega]
  · subst h
    have e : compare x x = .eq := by rw [Nat.compare_eq_eq]
    rw [e] at ho
    simp [Builtin.min_, Builtin.min2, ho, hn]
  · have e : compare x y = .gt := by rw [Nat.compare_eq_gt]; exact h
    rw [e] at ho
    simp [Builtin.min_, Builtin.min2, ho, h]
theorem run_max_gd {P : Program} {x y a b : Nat} (hx : fb x = some a) (hy : fb y = some b) (ha : a < 2139095040) (hb : b < 2139095040) (ts : Array TypeId) (t : TypeId) (w : World) :
    (Builtin.max_ ts t #[.float .f32 x, .float .f32 y]).run P w = .ok (.float .f32 (if a < b then b else a)) w := by
  obtain rfl := fb_lt hx
  obtain rfl := fb_lt hy
  have ho : FloatKind.f32.format.order x y = some (compare x y) := by rw [order32, hx, hy]; exact ford_gd ha hb
  have hn := gd_neg ha
  rcases Nat.lt_trichotomy x y with h | h | h
  · have e : compare x y = .lt := by rw [Nat.compare_eq_lt]; exact h
    rw [e] at ho
    simp [Builtin.max_, Builtin.max2, ho, h]
  · subst h
    have e : compare x x = .eq := by rw [Nat.compare_eq_eq]
    rw [e] at ho
    simp [Builtin.max_, Builtin.max2, ho, hn]
  · have e : compare x y = .gt := by rw [Nat.compare_eq_gt]; exact h
    rw [e] at ho
    simp [Builtin.max_, Builtin.max2, ho, show ¬ x < y by omega]

/-! The least and the greatest of numbers. -/
def leastB : List Nat → Nat
  | [] => 0
  | x :: r => r.foldl (fun m y => if y < m then y else m) x
def mostB : List Nat → Nat
  | [] => 0
  | x :: r => r.foldl (fun m y => if m < y then y else m) x
theorem foldl_mem {f : Nat → Nat → Nat} (hf : ∀ m y, f m y = y ∨ f m y = m) : ∀ (r : List Nat) (x : Nat), r.foldl f x = x ∨ r.foldl f x ∈ r
  | [], x => .inl rfl
  | y :: r, x => by
    show r.foldl f (f x y) = x ∨ _
    rcases foldl_mem hf r (f x y) with h | h
    · rw [List.foldl_cons, h]
      rcases hf x y with h2 | h2
      · exact .inr (by rw [h2]; simp)
      · exact .inl h2
    · exact .inr (List.mem_cons_of_mem _ h)
theorem leastB_mem {l : List Nat} (h : l ≠ []) : leastB l ∈ l := by
  cases l with
  | nil => exact absurd rfl h
  | cons x r =>
    rcases foldl_mem (f := fun m y => if y < m then y else m) (fun m y => by by_cases h : y < m <;> simp [h]) r x with h | h
    · show r.foldl _ x ∈ _
      rw [h]; simp
    · exact List.mem_cons_of_mem _ h
theorem mostB_mem {l : List Nat} (h : l ≠ []) : mostB l ∈ l := by
  cases l with
  | nil => exact absurd rfl h
  | cons x r =>
    rcases foldl_mem (f := fun m y => if m < y then y else m) (fun m y => by by_cases h : m < y <;> simp [h]) r x with h | h
    · show r.foldl _ x ∈ _
      rw [h]; simp
    · exact List.mem_cons_of_mem _ h
theorem foldl_low : ∀ (r : List Nat) (x : Nat), r.foldl (fun m y => if y < m then y else m) x ≤ x ∧ ∀ y ∈ r, r.foldl (fun m y => if y < m then y else m) x ≤ y
  | [], x => ⟨Nat.le_refl _, by simp⟩
  | z :: r, x => by
    obtain ⟨h1, h2⟩ := foldl_low r (if z < x then z else x)
    rw [List.foldl_cons]
    have h3 : (if z < x then z else x) ≤ x ∧ (if z < x then z else x) ≤ z := by split <;> omega
    refine ⟨Nat.le_trans h1 h3.1, fun y hy => ?_⟩
    rcases List.mem_cons.1 hy with rfl | hy
    · exact Nat.le_trans h1 h3.2
    · exact h2 y hy
theorem leastB_le {l : List Nat} {y : Nat} (h : y ∈ l) : leastB l ≤ y := by
  cases l with
  | nil => cases h
  | cons x r =>
    obtain ⟨h1, h2⟩ := foldl_low r x
    rcases List.mem_cons.1 h with rfl | h
    · exact h1
    · exact h2 y h

def MinRel (f : List Nat → Nat) (bl : List Nat) (w : World) (v3 v4 : Value) (wr : World) : Prop :=
  ∃ i : Nat, 1 ≤ i ∧ i ≤ bl.length ∧ v4 = .int .i64 i ∧ v3 = .float .f32 (f (bl.take i)) ∧ w = wr
theorem leastB_more {l : List Nat} {i c : Nat} (hi : 1 ≤ i) (h : l[i]? = some c) : leastB (l.take (i + 1)) = if c < leastB (l.take i) then c else leastB (l.take i) := by
  cases l with
  | nil => simp at h
  | cons x r =>
    obtain ⟨k, rfl⟩ : ∃ k, i = k + 1 := ⟨i - 1, by omega⟩
    show (r.take (k + 1)).foldl _ x = _
    have h' : r[k]? = some c := by simpa using h
    rw [List.take_add_one, h']
    simp only [Option.toList_some, List.foldl_append, List.foldl_cons, List.foldl_nil]
    rfl
theorem mostB_more {l : List Nat} {i c : Nat} (hi : 1 ≤ i) (h : l[i]? = some c) : mostB (l.take (i + 1)) = if mostB (l.take i) < c then c else mostB (l.take i) := by
  cases l with
  | nil => simp at h
  | cons x r =>
    obtain ⟨k, rfl⟩ : ∃ k, i = k + 1 := ⟨i - 1, by omega⟩
    show (r.take (k + 1)).foldl _ x = _
    have h' : r[k]? = some c := by simpa using h
    rw [List.take_add_one, h']
    simp only [Option.toList_some, List.foldl_append, List.foldl_cons, List.foldl_nil]
    rfl
/-- All bits of a list are those of such numbers. -/
def AllGd (bl : List Nat) : Prop := ∀ c ∈ bl, Gd (fb c)
theorem gd_self {c : Nat} (h : Gd (fb c)) : fb c = some c ∧ c < 2139095040 := by
  obtain ⟨b, h1, h2⟩ := h
  obtain rfl := fb_lt h1
  exact ⟨h1, h2⟩

set_option maxRecDepth 100000 in
set_option maxHeartbeats 1600000 in
theorem Min_any (v : Value) (bl : List Nat) (w : World) (hlen : bl.length ≤ 64) (h0 : bl ≠ []) (hv : FListAt w v bl) (hg : AllGd bl) :
    Calls Try.prog 85 #[v] w fun e w' => e = .returned (.float .f32 (leastB bl)) ∧ w = w' := by
  obtain ⟨aL, cap, rfl, _, hL⟩ := hv
  have HL := Lib.hid hL
  have HG := Lib.hid hg
  clear hL hg
  obtain ⟨x, hx⟩ : ∃ x, bl[0]? = some x := ⟨_, List.getElem?_eq_getElem (by have := List.length_pos_iff.2 h0; omega)⟩
  obtain ⟨gq, rfl, hq0⟩ := HL.out 0 x hx
  have hl1 : ¬ (bl.length : Int) < 1 := by have := List.length_pos_iff.2 h0; omega
  have hl2 : (0 : Int) < (bl.length : Int) := by omega
  have hl3 : 0 < bl.length := by omega
  have HX : Hid (leastB (bl.take 1) = x) := by
    show _ = _
    cases bl with
    | nil => cases hx
    | cons y r => simp at hx; subst hx; rfl
  clear hx
  go_enter Try.func85, Try.ntmps85
  go_wp2_with fail
  go_loopw [3, 4] (fun v3 v4 wr => MinRel leastB bl w v3 v4 wr) (fun _ v4 _ => bl.length - (intOf v4).toNat)
  case atStart => exact ⟨1, by omega, by omega, rfl, by rw [HX.out], rfl⟩
  case round =>
    obtain ⟨i, hi1, hi, rfl, rfl, rfl⟩ := hrel
    by_cases hlt : i < bl.length
    · obtain ⟨c, hc⟩ : ∃ c, bl[i]? = some c := ⟨_, List.getElem?_eq_getElem hlt⟩
      obtain ⟨gq', e, hq⟩ := HL.out i c hc
      cases e
      have j1 : (i : Int) < (bl.length : Int) := by omega
      have hm : leastB (bl.take i) ∈ bl := List.mem_of_mem_take (leastB_mem (by intro h; have := congrArg List.length h; rw [List.length_take, List.length_nil] at this; omega))
      obtain ⟨g1, g2⟩ := gd_self (HG.out _ hm)
      obtain ⟨g3, g4⟩ := gd_self (HG.out c (List.mem_of_getElem? hc))
      have hrun := fun ts t w => run_min_gd (P := Try.prog) g1 g3 g2 g4 ts t w
      have HM := Lib.hid (leastB_more hi1 hc)
      clear hc hm g1 g2 g3 g4
      go_wp2_with fail
      go_roundw
      case rel => exact ⟨i + 1, by omega, by omega, by go_num, by rw [HM.out], rfl⟩
      case measure => simp [intOf]; omega
    · have j1 : ¬ (i : Int) < (bl.length : Int) := by omega
      have HT : Hid (bl.take i = bl) := List.take_of_length_le (by omega)
      go_wp2_with fail
      go_ret
      exact ⟨by rw [HT.out]; rfl, rfl⟩

set_option maxRecDepth 100000 in
set_option maxHeartbeats 1600000 in
theorem Max_any (v : Value) (bl : List Nat) (w : World) (hlen : bl.length ≤ 64) (h0 : bl ≠ []) (hv : FListAt w v bl) (hg : AllGd bl) :
    Calls Try.prog 89 #[v] w fun e w' => e = .returned (.float .f32 (mostB bl)) ∧ w = w' := by
  obtain ⟨aL, cap, rfl, _, hL⟩ := hv
  have HL := Lib.hid hL
  have HG := Lib.hid hg
  clear hL hg
  obtain ⟨x, hx⟩ : ∃ x, bl[0]? = some x := ⟨_, List.getElem?_eq_getElem (by have := List.length_pos_iff.2 h0; omega)⟩
  obtain ⟨gq, rfl, hq0⟩ := HL.out 0 x hx
  have hl1 : ¬ (bl.length : Int) < 1 := by have := List.length_pos_iff.2 h0; omega
  have hl2 : (0 : Int) < (bl.length : Int) := by omega
  have hl3 : 0 < bl.length := by omega
  have HX : Hid (mostB (bl.take 1) = x) := by
    show _ = _
    cases bl with
    | nil => cases hx
    | cons y r => simp at hx; subst hx; rfl
  clear hx
  go_enter Try.func89, Try.ntmps89
  go_wp2_with fail
  go_loopw [3, 4] (fun v3 v4 wr => MinRel mostB bl w v3 v4 wr) (fun _ v4 _ => bl.length - (intOf v4).toNat)
  case atStart => exact ⟨1, by omega, by omega, rfl, by rw [HX.out], rfl⟩
  case round =>
    obtain ⟨i, hi1, hi, rfl, rfl, rfl⟩ := hrel
    by_cases hlt : i < bl.length
    · obtain ⟨c, hc⟩ : ∃ c, bl[i]? = some c := ⟨_, List.getElem?_eq_getElem hlt⟩
      obtain ⟨gq', e, hq⟩ := HL.out i c hc
      cases e
      have j1 : (i : Int) < (bl.length : Int) := by omega
      have hm : mostB (bl.take i) ∈ bl := List.mem_of_mem_take (mostB_mem (by intro h; have := congrArg List.length h; rw [List.length_take, List.length_nil] at this; omega))
      obtain ⟨g1, g2⟩ := gd_self (HG.out _ hm)
      obtain ⟨g3, g4⟩ := gd_self (HG.out c (List.mem_of_getElem? hc))
      have hrun := fun ts t w => run_max_gd (P := Try.prog) g1 g3 g2 g4 ts t w
      have HM := Lib.hid (mostB_more hi1 hc)
      clear hc hm g1 g2 g3 g4
      go_wp2_with fail
      go_roundw
      case rel => exact ⟨i + 1, by omega, by omega, by go_num, by rw [HM.out], rfl⟩
      case measure => simp [intOf]; omega
    · have j1 : ¬ (i : Int) < (bl.length : Int) := by omega
      have HT : Hid (bl.take i = bl) := List.take_of_length_le (by omega)
      go_wp2_with fail
      go_ret
      exact ⟨by rw [HT.out]; rfl, rfl⟩

def IdxRel (bl : List Nat) (q : Nat) (w : World) (v8 : Value) (wr : World) : Prop :=
  ∃ i : Nat, i ≤ bl.length ∧ v8 = .int .i64 i ∧ (∀ c ∈ bl.take i, c ≠ q) ∧ w = wr

set_option maxRecDepth 100000 in
set_option maxHeartbeats 1600000 in
theorem Index_any (v : Value) (bl : List Nat) (q : Nat) (w : World) (hlen : bl.length ≤ 64) (hv : FListAt w v bl) (hg : AllGd bl) (hq : q ∈ bl) :
    Calls Try.prog 84 #[v, .float .f32 q] w fun e w' => (∃ i : Nat, e = .returned (.int .i64 i) ∧ bl[i]? = some q ∧ ∀ c ∈ bl.take i, c ≠ q) ∧ w = w' := by
  obtain ⟨aL, cap, rfl, _, hL⟩ := hv
  have HL := Lib.hid hL
  have HG := Lib.hid hg
  have HQ := Lib.hid hq
  have heq' := order_eq
  clear hL hg hq
  go_enter Try.func84, Try.ntmps84
  go_wp2_with fail
  go_loopw [8] (fun v8 wr => IdxRel bl q w v8 wr) (fun v8 _ => bl.length - (intOf v8).toNat)
  case atStart => exact ⟨0, by omega, rfl, by simp, rfl⟩
  case round =>
    obtain ⟨i, hi, rfl, hno, rfl⟩ := hrel
    have HNO := Lib.hid hno
    clear hno
    by_cases hlt : i < bl.length
    · obtain ⟨c, hc⟩ : ∃ c, bl[i]? = some c := ⟨_, List.getElem?_eq_getElem hlt⟩
      obtain ⟨gq, rfl, hqc⟩ := HL.out i c hc
      have j1 : (i : Int) < (bl.length : Int) := by omega
      obtain ⟨g1, g2⟩ := gd_self (HG.out q HQ.out)
      obtain ⟨g3, g4⟩ := gd_self (HG.out c (List.mem_of_getElem? hc))
      have HF : Hid (feq (fb q) (fb c) = decide (q = c)) := by show _ = _; rw [g1, g3]; exact feq_gd g2 g4
      have HC := Lib.hid hc
      clear hc g1 g2 g3 g4
      by_cases he : q = c
      · have HF2 : feq (fb q) (fb c) = true := by rw [HF.out]; exact decide_eq_true he
        have HE := Lib.hid he
        clear he
        go_wp2_with fail
        go_ret
        exact ⟨⟨i, rfl, by rw [HC.out, HE.out], HNO.out⟩, rfl⟩
      · have HF2 : feq (fb q) (fb c) = false := by rw [HF.out]; exact decide_eq_false he
        have HE := Lib.hid he
        clear he
        go_wp2_with fail
        go_roundw
        case rel =>
          refine ⟨i + 1, by omega, by go_num, fun d hd => ?_, rfl⟩
          rw [List.take_add_one, HC.out, Option.toList_some, List.mem_append] at hd
          rcases hd with h | h
          · exact HNO.out d h
          · rw [List.mem_singleton.1 h]; exact fun h => HE.out h.symm
        case measure => simp [intOf]; omega
    · have j1 : ¬ (i : Int) < (bl.length : Int) := by omega
      exact absurd rfl (HNO.out q (by rw [List.take_of_length_le (by omega)]; exact HQ.out))
end Go.Proofs.Ytonmdkhfongmhaa
