/- Levels, sites, times and readings: which are right. -/
import Derived.Test.YtonmdkhfongmhaaDoorTlist
import Derived.Test.YtonmdkhfongmhaaDoorOwnN
namespace Go.Proofs.YtonmdkhfongmhaaDoor
open Go.RowKit

/-- The level of a reading. -/
def levF (l : Int) : F := fdiv (ofI l) (some 1098907648)

def okAt (f : Nat → Int) (i : Nat) : Bool := decide ((if i = 0 then 0 else f (i - 1)) + 1 ≤ f i) && decide (f i ≤ 100000)
def okN (f : Nat → Int) (n : Nat) : Bool := (List.range n).all (okAt f)
theorem okN_succ {f : Nat → Int} {n : Nat} (h : okN f n = true) (h2 : okAt f n = true) : okN f (n + 1) = true := by
  unfold okN at *
  rw [List.range_succ, List.all_append, h]
  simp [h2]
theorem okN_false {f : Nat → Int} {n i : Nat} (hi : i < n) (h : okAt f i = false) : okN f n = false := by
  unfold okN
  rw [List.all_eq_false]
  exact ⟨i, List.mem_range.2 hi, by rw [h]; decide⟩
theorem okN_at {f : Nat → Int} {n i : Nat} (h : okN f n = true) (hi : i < n) : okAt f i = true := List.all_eq_true.1 h i (List.mem_range.2 hi)
/-- The time before. -/
def lastT (f : Nat → Int) (i : Nat) : Int := if i = 0 then 0 else f (i - 1)
theorem okAt_iff {f : Nat → Int} {i : Nat} : okAt f i = (decide (lastT f i + 1 ≤ f i) && decide (f i ≤ 100000)) := rfl
theorem okN_pos {f : Nat → Int} : ∀ {n i : Nat}, okN f n = true → i < n → 1 ≤ f i ∧ f i ≤ 100000
  | n, 0, h, hi => by
    have := okN_at h hi
    unfold okAt at this
    simp at this
    omega
  | n, i + 1, h, hi => by
    have := okN_at h hi
    obtain ⟨h1, h2⟩ := okN_pos (i := i) h (by omega)
    unfold okAt at this
    simp at this
    omega
def timeF (l : List Rd) (i : Nat) : Int := (l.getD i ⟨0, 0⟩).t
def okR (l : List Rd) : Bool := decide (l.length ≤ 40) && okN (timeF l) l.length
theorem timeF_at {l : List Rd} {j : Nat} {e : Rd} (h : l[j]? = some e) : timeF l j = e.t := by unfold timeF; simp [List.getD, h]
/-- A list of times that a slice shows. -/
def TsAt (w : World) (v : Value) (f : Nat → Int) (n : Nat) : Prop :=
  ∃ a cap, v = .slice a n cap ∧ ∀ j, j < n → ∃ g o, a = some ⟨g, o, none⟩ ∧ w.cell? ⟨g, o + j, none⟩ = some (.int .i64 (f j))
def TokRel (f : Nat → Int) (n : Nat) (w : World) (v7 : Value) (wr : World) : Prop := ∃ j : Nat, j ≤ n ∧ v7 = .int .i64 j ∧ okN f j = true ∧ w = wr

set_option maxRecDepth 100000 in
set_option maxHeartbeats 1600000 in
theorem timesOk_any (v : Value) (f : Nat → Int) (n : Nat) (w : World) (hn : n ≤ 1048576) (hv : TsAt w v f n) :
    Calls Tryd.prog 18 #[v] w fun e w' => e = .returned (.bool (decide (n ≤ 40) && okN f n)) ∧ w = w' := by
  obtain ⟨a, cap, rfl, hL⟩ := hv
  have HL := Lib.hid hL
  clear hL
  go_enter Tryd.func18, Tryd.ntmps18
  go_wp2_with fail
  go_loopw [7] (fun v7 wr => TokRel f n w v7 wr) (fun v7 _ => n - (intOf v7).toNat)
  case atStart => exact ⟨0, by omega, rfl, rfl, rfl⟩
  case round =>
    obtain ⟨j, hj, rfl, hok, rfl⟩ := hrel
    have HOK := Lib.hid hok
    clear hok
    by_cases hlt : j < n
    · obtain ⟨g, o, rfl, hq⟩ := HL.out j hlt
      have j1 : (j : Int) < (n : Int) := by omega
      cases hm : momB (f j)
      · have HM := Lib.hid hm
        have HF : Hid (okN f n = false) := by
          show okN f n = false
          refine okN_false hlt ?_
          unfold momB at hm
          have hp : j = 0 ∨ 1 ≤ f (j - 1) := by
            by_cases h0 : j = 0
            · exact .inl h0
            · exact .inr (okN_pos HOK.out (i := j - 1) (by omega)).1
          unfold okAt
          by_cases h0 : j = 0
          · rw [if_pos h0]; simpa using hm
          · rw [if_neg h0]
            have h1 := hp.resolve_left h0
            simp only [Bool.and_eq_false_iff, decide_eq_false_iff_not] at hm ⊢
            omega
        clear hm
        go_wp2_with (go_at_call 22; refine (isMoment_any (f j) _).mono ?_; rw [HM.out]; rintro e w' ⟨rfl, rfl⟩)
        go_ret
        exact ⟨ret_bool (by rw [HF.out]; simp), rfl⟩
      · have HM := Lib.hid hm
        clear hm
        by_cases h0 : j = 0
        · subst h0
          have hq0 : w.cell? ⟨g, o, none⟩ = some (.int .i64 (f 0)) := by simpa using hq
          have j2 : (0 : Int) < (n : Int) := by omega
          have HF : Hid (okAt f 0 = true) := by
            have := HM.out
            show okAt f 0 = true
            unfold momB at this
            unfold okAt
            simpa using this
          go_wp2_with (go_at_call 22; refine (isMoment_any (f 0) _).mono ?_; rw [HM.out]; rintro e w' ⟨rfl, rfl⟩)
          go_roundw
          case rel => exact ⟨1, by omega, by go_num, okN_succ HOK.out HF.out, rfl⟩
          case measure => simp [intOf]; omega
        · have hj0 : (0 : Int) < (j : Int) := by omega
          obtain ⟨g2, o2, e2, hq2⟩ := HL.out (j - 1) (by omega)
          cases e2
          have hq3 : w.cell? ⟨g, o + j - 1, none⟩ = some (.int .i64 (f (j - 1))) := by rw [show o + j - 1 = o + (j - 1) by omega]; exact hq2
          have ej : ((j : Int) - 1).toNat = j - 1 := by omega
          by_cases hlt2 : f (j - 1) < f j
          · have k1 : ¬ f j ≤ f (j - 1) := by omega
            have HF : Hid (okAt f j = true) := by
              have := HM.out
              show okAt f j = true
              unfold momB at this
              unfold okAt
              rw [if_neg h0]
              simp only [Bool.and_eq_true, decide_eq_true_eq] at this ⊢
              omega
            go_wp2_with (go_at_call 22; refine (isMoment_any (f j) _).mono ?_; rw [HM.out]; rintro e w' ⟨rfl, rfl⟩)
            go_roundw
            case rel => exact ⟨j + 1, by omega, by go_num, okN_succ HOK.out HF.out, rfl⟩
            case measure => simp [intOf]; omega
          · have k1 : f j ≤ f (j - 1) := by omega
            have HF : Hid (okN f n = false) := by
              show okN f n = false
              refine okN_false hlt ?_
              unfold okAt
              rw [if_neg h0]
              simp only [Bool.and_eq_false_iff, decide_eq_false_iff_not]
              omega
            go_wp2_with (go_at_call 22; refine (isMoment_any (f j) _).mono ?_; rw [HM.out]; rintro e w' ⟨rfl, rfl⟩)
            go_ret
            exact ⟨ret_bool (by rw [HF.out]; simp), rfl⟩
    · have j1 : ¬ (j : Int) < (n : Int) := by omega
      have e : j = n := by omega
      subst e
      go_wp2_with fail
      go_ret
      refine ⟨ret_bool ?_, rfl⟩
      rw [HOK.out]
      simp only [Bool.and_true, decide_eq_decide]
      omega
end Go.Proofs.YtonmdkhfongmhaaDoor
