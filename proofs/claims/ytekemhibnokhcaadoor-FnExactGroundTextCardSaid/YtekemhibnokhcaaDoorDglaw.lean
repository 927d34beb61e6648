/- The law on the text of a ground: its walk. -/
import Derived.Test.YtekemhibnokhcaaDoorDgi
namespace Go.Proofs.YtekemhibnokhcaaDoor
open Go.RowKit

theorem GroundText_any (g : G) (w : World) (hr : g.Rng) (hx : g.Fx) (h32 : g.B32) (ht : Tab w) (hz : TabZ w) :
    Calls Tryd.prog 12 #[.agg (arrG g)] w fun e w' => e = .returned (.string (gtS g)) ∧ Below w.heap.size w w' := by
  cases hb : (okI g.m && bareTo g 64)
  · have e : gtS g = ⟨#[]⟩ := by unfold gtS; rw [hb]; rfl
    rw [e]
    exact GroundText_bad g w hr h32 hb
  · have e : gtS g = txtG g 64 := by unfold gtS; rw [hb]; rfl
    rw [e]
    rw [Bool.and_eq_true] at hb
    exact GroundText_good g w hr hx h32 hb.1 hb.2 ht hz

set_option maxRecDepth 100000 in
set_option maxHeartbeats 1600000 in
theorem law_GroundText (g : G) (w : World) (hr : g.Rng) (hx : g.Fx) (h32 : g.B32) (ht : Tab w) (hz : TabZ w) :
    Calls Tryd.prog 4 #[.agg (arrG g)] w (RetB true w) := by
  have HT0 := Lib.hid ht
  have HZ0 := Lib.hid hz
  clear ht hz
  obtain ⟨R, hR⟩ : ∃ R, gtS g = R := ⟨_, rfl⟩
  have HR := Lib.hid hR
  clear hR
  go_enter Tryd.func4, Tryd.ntmps4
  go_wp2_with (with_reducible refine wpList_box rfl ?_)
  intro A wA hA1 hA2 hA3 hA4
  go_wp2_with ((with_reducible refine wpList_getL hA3 ?_ ?_); rfl)
  refine (toGround_any g wA).mono ?_
  rintro e w1 ⟨rfl, hb1⟩
  go_wp2_with fail
  refine (specGroundText_any g w1 hr hx h32).mono ?_
  rw [HR.out]
  rintro e w2 ⟨rfl, hb2⟩
  have HA2 := (hA3.later hb1).later hb2
  have HB2 := Lib.hid ((hA4.trans (hb1.mono hA4.size)).trans (hb2.mono (Nat.le_trans hA4.size hb1.size)))
  clear hA3 hA4 hb1 hb2
  go_wp2_with ((with_reducible refine wpList_getL HA2 ?_ ?_); rfl)
  refine (toGround_any g w2).mono ?_
  rintro e w5 ⟨rfl, hb5⟩
  have HB5 := Lib.hid (below_next HB2.out hb5)
  clear hb5 HA2
  go_wp2_with fail
  refine (GroundText_any g w5 hr hx h32 (HT0.out.later HB5.out) (tabs_later HZ0.out HB5.out)).mono ?_
  rw [HR.out]
  rintro e w6 ⟨rfl, hb6⟩
  have HB6 := Lib.hid (below_next HB5.out hb6)
  clear hb6
  go_wp2_with fail
  go_ret
  exact ⟨rfl, HB6.out⟩
end Go.Proofs.YtekemhibnokhcaaDoor
