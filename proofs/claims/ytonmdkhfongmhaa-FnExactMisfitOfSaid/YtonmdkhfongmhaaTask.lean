/- Aquifers, a site and readings that are right: both sides. -/
import Derived.Test.YtonmdkhfongmhaaTmisI
namespace Go.Proofs.Ytonmdkhfongmhaa
open Go.RowKit

def Aq.ok (e : Aq) : Bool := okA (fb e.T) (fb e.S)

set_option maxRecDepth 100000 in
set_option maxHeartbeats 800000 in
theorem badAq_any (T S : Nat) (w : World) : Calls Try.prog 95 #[.agg #[.float .f32 T, .float .f32 S]] w (RetB (!okA (fb T) (fb S)) w) := by
  go_enter Try.func95, Try.ntmps95
  go_wp2_with (with_reducible refine wpList_box rfl ?_)
  intro b w1 hB1 hB2 hB3 hB4
  have HB := Lib.hid hB4
  clear hB4
  go_wp2_with (first | ((with_reducible refine wpList_get hB3 Try.underlying42 rfl (by kernel_rfl) ?_ ?_); rfl) | (go_at_call 73; refine (ValidAquifer_any T S _).mono ?_; rintro e w2 ⟨rfl, hb2⟩))
  go_ret
  exact ⟨rfl, below_next HB.out hb2⟩

def AidxRel (l : List Aq) (w : World) (v8 : Value) (wr : World) : Prop := ∃ j : Nat, j ≤ l.length ∧ v8 = .int .i64 j ∧ (∀ e ∈ l.take j, e.ok = true) ∧ Below w.heap.size w wr

set_option maxRecDepth 100000 in
set_option maxHeartbeats 800000 in
theorem IndexA_any (v : Value) (l : List Aq) (w : World) (hlen : l.length < 9223372036854775808) (hv : AAt w v l) :
    Calls Try.prog 115 #[v, .func (.func 95) #[] #[]] w fun e w' => ∃ z, e = .returned (.int .i64 z) ∧ decide (0 ≤ z) = !(l.all Aq.ok) ∧ Below w.heap.size w w' := by
  obtain ⟨aL, cap, rfl, hL⟩ := hv
  have HL := Lib.hid hL
  clear hL
  go_enter Try.func115, Try.ntmps115
  go_wp2_with fail
  go_loopw [8] (fun v8 wr => AidxRel l w v8 wr) (fun v8 _ => l.length - (intOf v8).toNat)
  case atStart => exact ⟨0, by omega, rfl, by simp, Below.refl _ _⟩
  case round =>
    obtain ⟨j, hj, rfl, hall, hB⟩ := hrel
    have HB := Lib.hid hB
    have HALL := Lib.hid hall
    clear hB hall
    by_cases hlt : j < l.length
    · obtain ⟨e, he⟩ : ∃ e, l[j]? = some e := ⟨_, List.getElem?_eq_getElem hlt⟩
      obtain ⟨hrng, gq, rfl, hq⟩ := HL.out j e he
      have HQ := Lib.hid (range_below hq HB.out)
      have HE := Lib.hid he
      have j1 : (j : Int) < (l.length : Int) := by omega
      clear hq he
      cases hok : e.ok
      · have HOK : Hid ((!okA (fb e.T) (fb e.S)) = true) := by show (!okA (fb e.T) (fb e.S)) = true; unfold Aq.ok at hok; rw [hok]; rfl
        have HR : Hid (l.all Aq.ok = false) := by
          show _ = _
          rw [List.all_eq_false]
          exact ⟨e, List.mem_of_getElem? HE.out, by rw [hok]; decide⟩
        clear hok
        go_wp2_with (first | ((with_reducible refine wpList_gateL ?_); refine wpList_load_mid rfl _ _ rfl gq (j * 2) rfl e.cells _ HQ.out Try.underlying42 rfl sizeAq ?_) | (go_at_call 95; refine (badAq_any e.T e.S _).mono ?_; rw [HOK.out]; rintro e2 w2 ⟨rfl, hb2⟩))
        go_ret
        exact ⟨j, rfl, by rw [HR.out]; exact decide_eq_true (by omega), below_next HB.out hb2⟩
      · have HOK : Hid ((!okA (fb e.T) (fb e.S)) = false) := by show (!okA (fb e.T) (fb e.S)) = false; unfold Aq.ok at hok; rw [hok]; rfl
        have HOK2 := Lib.hid hok
        clear hok
        go_wp2_with (first | ((with_reducible refine wpList_gateL ?_); refine wpList_load_mid rfl _ _ rfl gq (j * 2) rfl e.cells _ HQ.out Try.underlying42 rfl sizeAq ?_) | (go_at_call 95; refine (badAq_any e.T e.S _).mono ?_; rw [HOK.out]; rintro e2 w2 ⟨rfl, hb2⟩))
        go_roundw
        case rel =>
          refine ⟨j + 1, by omega, by go_num, fun e' he' => ?_, below_next HB.out hb2⟩
          rw [take_more' HE.out, List.mem_append] at he'
          rcases he' with h | h
          · exact HALL.out e' h
          · rw [List.mem_singleton.1 h]; exact HOK2.out
        case measure => simp [intOf]; omega
    · have j1 : ¬ (j : Int) < (l.length : Int) := by omega
      have HR : Hid (l.all Aq.ok = true) := by
        show _ = _
        rw [List.all_eq_true]
        intro e he
        have := HALL.out e
        rw [List.take_of_length_le (by omega)] at this
        exact this he
      go_wp2_with fail
      go_ret
      exact ⟨-1, rfl, by rw [HR.out]; rfl, HB.out⟩

set_option maxHeartbeats 800000 in
theorem ContainsA_any (v : Value) (l : List Aq) (w : World) (hlen : l.length < 9223372036854775808) (hv : AAt w v l) :
    Calls Try.prog 94 #[v, .func (.func 95) #[] #[]] w (RetB (!(l.all Aq.ok)) w) := by
  go_enter Try.func94, Try.ntmps94
  go_wp2_with fail
  refine (IndexA_any v l w hlen hv).mono ?_
  rintro e w2 ⟨z, rfl, hz, hb2⟩
  go_wp2_with fail
  all_goals
    go_ret
    refine ⟨ret_bool ?_, hb2⟩
    rw [← hz]


end Go.Proofs.Ytonmdkhfongmhaa
