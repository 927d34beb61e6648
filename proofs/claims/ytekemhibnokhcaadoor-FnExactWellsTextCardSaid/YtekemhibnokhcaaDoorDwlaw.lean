/- The text of wells: both sides, and the law's walk. -/
import Derived.Test.YtekemhibnokhcaaDoorDwt2
import Derived.Deep.QuietTactic
import Derived.BigQuiet
namespace Go.Proofs.YtekemhibnokhcaaDoor
open Go.RowKit

theorem WAt_far {w w' : World} {v : Value} {l : List We} (h : WAt w v l) (hb : Below w.heap.size w w') : WAt w' v l := by
  obtain ⟨a, cap, e, hL⟩ := h
  refine ⟨a, cap, e, fun j x hx => ?_⟩
  obtain ⟨h1, g, h2, h3⟩ := hL j x hx
  exact ⟨h1, g, h2, range_below h3 hb⟩
def twB (l : List We) : Bool := decide (l.length ≤ 12) && l.all We.ok
def twR (l : List We) : ByteArray := if twB l then txtW l l.length else ⟨#[]⟩
def RetTw (l : List We) (w : World) (e : Ending) (w' : World) : Prop := e = .returned (.string (twR l)) ∧ Below w.heap.size w w'

set_option maxRecDepth 100000 in
set_option maxHeartbeats 1600000 in
theorem WellsText_any (v : Value) (l : List We) (w : World) (hlen : l.length ≤ 1048576) (h32 : ∀ e ∈ l, e.r < 4294967296) (hv : WAt w v l) (ht : Tab w) (hz : TabZ w) :
    Calls Tryd.prog 8 #[v] w (RetTw l w) := by
  obtain ⟨aL, cap, rfl, hL⟩ := hv
  have HV : Hid (WAt w (.slice aL l.length cap) l) := ⟨aL, cap, rfl, hL⟩
  have HT := Lib.hid ht
  have HZ := Lib.hid hz
  clear hL ht hz
  by_cases h12 : l.length ≤ 12
  · have k1 : ¬ (12 : Int) < (l.length : Int) := by omega
    have HC : Hid (∀ w', Below w.heap.size w w' → Calls Tryd.prog 16 #[.slice aL l.length cap, .func (.func 17) #[] #[]] w' (RetB (!(l.all We.ok)) w')) :=
      fun w' hb => ContainsW_any _ l w' (by omega) (WAt_far HV.out hb)
    cases hok : l.all We.ok
    · have HR : Hid (twR l = ⟨#[]⟩) := by show _ = _; unfold twR twB; rw [hok, Bool.and_false]; rfl
      rw [hok] at HC
      clear hok
      go_enter Tryd.func8, Tryd.ntmps8
      go_wp2_with (first | (go_at_call 16; (with_reducible refine (HC.out _ (Below.refl _ _)).mono ?_); rintro e w1 ⟨rfl, hb1⟩))
      go_ret
      exact ⟨by rw [HR.out]; rfl, hb1⟩
    · have HR : Hid (twR l = txtW l l.length) := by show _ = _; unfold twR twB; rw [hok, Bool.and_true, decide_eq_true h12]; rfl
      rw [hok] at HC
      clear hok
      go_enter Tryd.func8, Tryd.ntmps8
      go_wp2_with (first | (go_at_call 16; (with_reducible refine (HC.out _ (Below.refl _ _)).mono ?_); rintro e w1 ⟨rfl, hb1⟩) | (go_at_call 18; refine (wellsText_any _ l _ h12 h32 (WAt_far HV.out hb1) (HT.out.later hb1) (tabs_later HZ.out hb1)).mono ?_; rintro e w2 ⟨rfl, hb2⟩))
      go_ret
      exact ⟨by rw [HR.out]; rfl, below_next hb1 hb2⟩
  · have k1 : (12 : Int) < (l.length : Int) := by omega
    have HR : Hid (twR l = ⟨#[]⟩) := by show _ = _; unfold twR twB; rw [decide_eq_false h12]; rfl
    go_enter Tryd.func8, Tryd.ntmps8
    go_wp2_with fail
    go_ret
    exact ⟨by rw [HR.out]; rfl, Below.refl _ _⟩

def SwRel (l : List We) (w : World) (v3 : Value) (wr : World) : Prop := ∃ j : Nat, j ≤ l.length ∧ v3 = .int .i64 j ∧ (∀ e ∈ l.take j, e.ok = true) ∧ Below w.heap.size w wr
set_option maxRecDepth 100000 in
set_option maxHeartbeats 1600000 in
theorem specWellsText_any (v : Value) (l : List We) (w : World) (hlen : l.length ≤ 1048576) (h32 : ∀ e ∈ l, e.r < 4294967296) (hv : WAt w v l) :
    Calls Tryd.prog 6 #[v] w (RetTw l w) := by
  obtain ⟨aL, cap, rfl, hL⟩ := hv
  have HV : Hid (WAt w (.slice aL l.length cap) l) := ⟨aL, cap, rfl, hL⟩
  have HL := Lib.hid hL
  clear hL
  by_cases h12 : l.length ≤ 12
  · have k1 : ¬ (12 : Int) < (l.length : Int) := by omega
    go_enter Tryd.func6, Tryd.ntmps6
    go_wp2_with fail
    go_loopw [3] (fun v3 wr => SwRel l w v3 wr) (fun v3 _ => l.length - (intOf v3).toNat)
    case atStart => exact ⟨0, by omega, rfl, fun e he => by simp at he, Below.refl _ _⟩
    case round =>
      obtain ⟨j, hj, rfl, hall, hBB⟩ := hrel
      have HALL := Lib.hid hall
      have HB := Lib.hid hBB
      clear hall hBB
      by_cases hlt : j < l.length
      · obtain ⟨e, he⟩ : ∃ e, l[j]? = some e := ⟨_, List.getElem?_eq_getElem hlt⟩
        obtain ⟨⟨hx, hy⟩, gq, rfl, hq⟩ := HL.out j e he
        have hQ := range_below hq HB.out
        have HQ := Lib.hid hQ
        have HE := Lib.hid he
        have j1 : (j : Int) < (l.length : Int) := by omega
        have HO : Hid (∀ w', Calls Tryd.prog 13 #[.agg e.cells.toArray] w' (RetB e.ok w')) := fun w' => l03Ok_any e.x e.y e.r w' hx hy
        clear hq hQ he
        cases hoke : e.ok
        · have HR : Hid (twR l = ⟨#[]⟩) := by
            show _ = _
            unfold twR twB
            have : l.all We.ok = false := by
              rw [List.all_eq_false]
              exact ⟨e, List.mem_of_getElem? HE.out, by rw [hoke]; decide⟩
            rw [this, Bool.and_false]; rfl
          rw [hoke] at HO
          go_wp2_with (first | ((with_reducible refine wpList_gateL ?_); refine wpList_load_mid rfl _ _ rfl gq (j * 3) rfl e.cells _ HQ.out Tryd.underlying43 rfl sizeWell ?_) | (go_at_call 13; (with_reducible refine (HO.out _).mono ?_); rintro e2 w2 ⟨rfl, hb2⟩))
          go_ret
          exact ⟨by rw [HR.out]; rfl, below_next HB.out hb2⟩
        · rw [hoke] at HO
          have HOKE := Lib.hid hoke
          go_wp2_with (first | ((with_reducible refine wpList_gateL ?_); refine wpList_load_mid rfl _ _ rfl gq (j * 3) rfl e.cells _ HQ.out Tryd.underlying43 rfl sizeWell ?_) | (go_at_call 13; (with_reducible refine (HO.out _).mono ?_); rintro e2 w2 ⟨rfl, hb2⟩))
          go_roundw
          case rel =>
            refine ⟨j + 1, by omega, by go_num, fun x hx2 => ?_, below_next HB.out hb2⟩
            rw [take_more' HE.out] at hx2
            rcases List.mem_append.1 hx2 with h | h
            · exact HALL.out x h
            · rw [List.mem_singleton.1 h]; exact HOKE.out
          case measure => simp [intOf]; omega
      · have j1 : ¬ (j : Int) < (l.length : Int) := by omega
        have hjl : j = l.length := by omega
        have HR : Hid (twR l = txtW l l.length) := by
          show _ = _
          unfold twR twB
          have : l.all We.ok = true := by
            rw [List.all_eq_true]
            intro e he
            exact HALL.out e (by rw [hjl, List.take_length]; exact he)
          rw [this, Bool.and_true, decide_eq_true h12]; rfl
        go_wp2_with (go_at_call 14; refine (l03Text_any _ l _ h12 h32 (WAt_far HV.out HB.out)).mono ?_; rintro e w2 ⟨rfl, hb2⟩)
        go_ret
        exact ⟨by rw [HR.out]; rfl, below_next HB.out hb2⟩
  · have k1 : (12 : Int) < (l.length : Int) := by omega
    have HR : Hid (twR l = ⟨#[]⟩) := by show _ = _; unfold twR twB; rw [decide_eq_false h12]; rfl
    go_enter Tryd.func6, Tryd.ntmps6
    go_wp2_with fail
    go_ret
    exact ⟨by rw [HR.out]; rfl, Below.refl _ _⟩

set_option maxRecDepth 100000 in
set_option maxHeartbeats 1600000 in
theorem law_WellsText (v : Value) (l : List We) (w : World) (hlen : l.length < 9223372036854775808) (h32 : ∀ e ∈ l, e.r < 4294967296) (hv : LAt w v l) (ht : Tab w) (hz : TabZ w) :
    Calls Tryd.prog 3 #[v] w (RetB true w) := by
  have hrng := hv.rng
  have HV0 := Lib.hid hv
  have HT0 := Lib.hid ht
  have HZ0 := Lib.hid hz
  clear hv ht hz
  by_cases hsz : l.length ≤ 1048576
  · obtain ⟨R, hR⟩ : ∃ R, twR l = R := ⟨_, rfl⟩
    have HR := Lib.hid hR
    clear hR
    have n0 : ¬ (1048576 : Int) - (l.length : Int) < 0 := by omega
    go_enter Tryd.func3, Tryd.ntmps3
    go_wp2_with fail
    refine (szWellS_any v l _ hlen HV0.out).mono ?_
    rw [if_pos hsz]
    rintro e w' ⟨rfl, rfl⟩
    go_wp2_with fail
    refine (toWellS_any v l w hsz HV0.out).mono ?_
    rintro e w1 ⟨B1, rfl, hB1, hW1, hb1⟩
    have HW1 := Lib.hid hW1
    have HB1 := Lib.hid hb1
    clear hW1 hb1
    go_wp2_with fail
    refine (specWellsText_any _ l w1 hsz h32 (HW1.out.wat hrng)).mono ?_
    unfold RetTw
    rw [HR.out]
    rintro e w2 ⟨rfl, hb2⟩
    have HB2 := Lib.hid (below_next HB1.out hb2)
    clear hb2
    go_wp2_with fail
    refine (toWellS_any v l w2 hsz (HV0.out.far HB2.out)).mono ?_
    rintro e w3 ⟨B3, rfl, hB3, hW3, hb3⟩
    have HW3 := Lib.hid hW3
    have HB3 := Lib.hid (below_next HB2.out hb3)
    clear hW3 hb3
    go_wp2_with fail
    refine (WellsText_any _ l w3 hsz h32 (HW3.out.wat hrng) (HT0.out.later HB3.out) (tabs_later HZ0.out HB3.out)).mono ?_
    unfold RetTw
    rw [HR.out]
    rintro e w4 ⟨rfl, hb4⟩
    have HB4 := Lib.hid (below_next HB3.out hb4)
    have HW4 := Lib.hid (HW3.out.far hb4)
    clear hb4
    go_wp2_with fail
    refine (toWellS_any v l w4 hsz (HV0.out.far HB4.out)).mono ?_
    rintro e w5 ⟨B5, rfl, hB5, hW5, hb5⟩
    have HW5 := Lib.hid hW5
    have HW45 := Lib.hid (HW4.out.far hb5)
    have HB5 := Lib.hid (below_next HB4.out hb5)
    clear hW5 hb5
    go_wp2_with fail
    refine (eqWellS_any _ _ l w5 hsz (HW45.out.wat hrng) (HW5.out.wat hrng)).mono ?_
    rintro e w6 ⟨rfl, hb6⟩
    have HB6 := Lib.hid (below_next HB5.out hb6)
    clear hb6
    go_wp2_with fail
    go_ret
    exact ⟨rfl, HB6.out⟩
  · have n0 : ((-1 : Int) < 0) := by decide
    go_enter Tryd.func3, Tryd.ntmps3
    go_wp2_with fail
    refine (szWellS_any v l _ hlen HV0.out).mono ?_
    rw [if_neg hsz]
    rintro e w' ⟨rfl, rfl⟩
    go_wp2_with fail
    go_ret
    exact ⟨rfl, Below.refl _ _⟩
end Go.Proofs.YtekemhibnokhcaaDoor
