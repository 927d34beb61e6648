/- The text of readings: both sides, and the law's walk. -/
import Derived.Test.YtonmdkhfongmhaaDoorDtx2
namespace Go.Proofs.YtonmdkhfongmhaaDoor
open Go.RowKit

theorem okR_parts {l : List Rd} (h : okR l = true) : l.length ≤ 40 ∧ ∀ e ∈ l, 1 ≤ e.t := by
  unfold okR at h
  rw [Bool.and_eq_true] at h
  refine ⟨of_decide_eq_true h.1, fun e he => ?_⟩
  obtain ⟨j, hj, rfl⟩ := List.getElem_of_mem he
  have := (okN_pos h.2 hj).1
  rw [timeF_at (List.getElem?_eq_getElem hj)] at this
  exact this
def txR (l : List Rd) : ByteArray := if okR l then txtK l l.length else ⟨#[]⟩
def RetTx (l : List Rd) (w : World) (e : Ending) (w' : World) : Prop := e = .returned (.string (txR l)) ∧ Below w.heap.size w w'

set_option maxRecDepth 100000 in
set_option maxHeartbeats 800000 in
theorem ReadingsText_any (v : Value) (l : List Rd) (w : World) (hlen : l.length ≤ 1048576) (hv : RAt w v l) (ht : Tab w) :
    Calls Tryd.prog 7 #[v] w (RetTx l w) := by
  obtain ⟨aL, cap, rfl, hL⟩ := hv
  have HV : Hid (RAt w (.slice aL l.length cap) l) := ⟨aL, cap, rfl, hL⟩
  have HT := Lib.hid ht
  clear hL ht
  cases hok : okR l
  · have HOK := Lib.hid hok
    have HR : Hid (txR l = ⟨#[]⟩) := by show _ = _; unfold txR; rw [hok]; rfl
    clear hok
    go_enter Tryd.func7, Tryd.ntmps7
    go_wp2_with (go_at_call 12; refine (ValidReadings_any _ l _ hlen HV.out).mono ?_; rw [HOK.out]; rintro e w1 ⟨rfl, hb1⟩)
    go_ret
    exact ⟨by rw [HR.out]; rfl, hb1⟩
  · have HOK := Lib.hid hok
    have HR : Hid (txR l = txtK l l.length) := by show _ = _; unfold txR; rw [hok]; rfl
    have HP := Lib.hid (okR_parts hok)
    clear hok
    go_enter Tryd.func7, Tryd.ntmps7
    go_wp2_with (first | (go_at_call 12; refine (ValidReadings_any _ l _ hlen HV.out).mono ?_; rw [HOK.out]; rintro e w1 ⟨rfl, hb1⟩) | (go_at_call 13; refine (readingsText_any _ l _ HP.out.1 HP.out.2 (HV.out.far hb1) (HT.out.later hb1)).mono ?_; rintro e w2 ⟨rfl, hb2⟩))
    go_ret
    exact ⟨by rw [HR.out]; rfl, below_next hb1 hb2⟩
set_option maxRecDepth 100000 in
set_option maxHeartbeats 800000 in
theorem specReadingsText_any (v : Value) (l : List Rd) (w : World) (hlen : l.length ≤ 1048576) (hv : RAt w v l) :
    Calls Tryd.prog 5 #[v] w (RetTx l w) := by
  obtain ⟨aL, cap, rfl, hL⟩ := hv
  have HV : Hid (RAt w (.slice aL l.length cap) l) := ⟨aL, cap, rfl, hL⟩
  clear hL
  cases hok : okR l
  · have HOK := Lib.hid hok
    have HR : Hid (txR l = ⟨#[]⟩) := by show _ = _; unfold txR; rw [hok]; rfl
    clear hok
    go_enter Tryd.func5, Tryd.ntmps5
    go_wp2_with (go_at_call 9; refine (l04Ok_any _ l _ hlen HV.out).mono ?_; rw [HOK.out]; rintro e w1 ⟨rfl, hb1⟩)
    go_ret
    exact ⟨by rw [HR.out]; rfl, hb1⟩
  · have HOK := Lib.hid hok
    have HR : Hid (txR l = txtK l l.length) := by show _ = _; unfold txR; rw [hok]; rfl
    have HP := Lib.hid (okR_parts hok)
    clear hok
    go_enter Tryd.func5, Tryd.ntmps5
    go_wp2_with (first | (go_at_call 9; refine (l04Ok_any _ l _ hlen HV.out).mono ?_; rw [HOK.out]; rintro e w1 ⟨rfl, hb1⟩) | (go_at_call 10; refine (l04Text_any _ l _ HP.out.1 HP.out.2 (HV.out.far hb1)).mono ?_; rintro e w2 ⟨rfl, hb2⟩))
    go_ret
    exact ⟨by rw [HR.out]; rfl, below_next hb1 hb2⟩

set_option maxRecDepth 100000 in
set_option maxHeartbeats 1600000 in
theorem law_ReadingsText (v : Value) (l : List Rd) (w : World) (hlen : l.length < 9223372036854775808) (hv : RLAt w v l) (ht : Tab w) :
    Calls Tryd.prog 3 #[v] w (RetB true w) := by
  have hrng := hv.rng
  have HV0 := Lib.hid hv
  have HT0 := Lib.hid ht
  clear hv ht
  by_cases hsz : l.length ≤ 1048576
  · obtain ⟨R, hR⟩ : ∃ R, txR l = R := ⟨_, rfl⟩
    have HR := Lib.hid hR
    clear hR
    have n0 : ¬ (1048576 : Int) - (l.length : Int) < 0 := by omega
    go_enter Tryd.func3, Tryd.ntmps3
    go_wp2_with fail
    refine (szReadingS_any v l _ hlen HV0.out).mono ?_
    rw [if_pos hsz]
    rintro e w' ⟨rfl, rfl⟩
    go_wp2_with fail
    refine (toReadingS_any v l w hsz HV0.out).mono ?_
    rintro e w1 ⟨B1, rfl, hB1, hW1, hb1⟩
    have HW1 := Lib.hid hW1
    have HB1 := Lib.hid hb1
    clear hW1 hb1
    go_wp2_with fail
    refine (specReadingsText_any _ l w1 hsz (HW1.out.at' hrng)).mono ?_
    unfold RetTx
    rw [HR.out]
    rintro e w2 ⟨rfl, hb2⟩
    have HB2 := Lib.hid (below_next HB1.out hb2)
    clear hb2
    go_wp2_with fail
    refine (toReadingS_any v l w2 hsz (HV0.out.far HB2.out)).mono ?_
    rintro e w3 ⟨B3, rfl, hB3, hW3, hb3⟩
    have HW3 := Lib.hid hW3
    have HB3 := Lib.hid (below_next HB2.out hb3)
    clear hW3 hb3
    go_wp2_with fail
    refine (ReadingsText_any _ l w3 hsz (HW3.out.at' hrng) (HT0.out.later HB3.out)).mono ?_
    unfold RetTx
    rw [HR.out]
    rintro e w4 ⟨rfl, hb4⟩
    have HB4 := Lib.hid (below_next HB3.out hb4)
    have HW4 := Lib.hid (HW3.out.far hb4)
    clear hb4
    go_wp2_with fail
    refine (toReadingS_any v l w4 hsz (HV0.out.far HB4.out)).mono ?_
    rintro e w5 ⟨B5, rfl, hB5, hW5, hb5⟩
    have HW5 := Lib.hid hW5
    have HW45 := Lib.hid (HW4.out.far hb5)
    have HB5 := Lib.hid (below_next HB4.out hb5)
    clear hW5 hb5
    go_wp2_with fail
    refine (eqReadingS_any _ _ l w5 hsz (HW45.out.at' hrng) (HW5.out.at' hrng)).mono ?_
    rintro e w6 ⟨rfl, hb6⟩
    have HB6 := Lib.hid (below_next HB5.out hb6)
    clear hb6
    go_wp2_with fail
    go_ret
    exact ⟨rfl, HB6.out⟩
  · have n0 : ((-1 : Int) < 0) := by decide
    go_enter Tryd.func3, Tryd.ntmps3
    go_wp2_with fail
    refine (szReadingS_any v l _ hlen HV0.out).mono ?_
    rw [if_neg hsz]
    rintro e w' ⟨rfl, rfl⟩
    go_wp2_with fail
    go_ret
    exact ⟨rfl, Below.refl _ _⟩
end Go.Proofs.YtonmdkhfongmhaaDoor
