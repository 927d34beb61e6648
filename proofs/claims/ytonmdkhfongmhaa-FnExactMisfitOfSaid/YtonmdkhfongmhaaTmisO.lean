/- The misfit, told with a code: both sides. -/
import Derived.Test.YtonmdkhfongmhaaTfit
namespace Go.Proofs.Ytonmdkhfongmhaa
open Go.RowKit

set_option maxRecDepth 100000 in
set_option maxHeartbeats 1600000 in
theorem l04Asked_any (a : Aq) (s : Si) (hs : s.Rng) (v : Value) (l : List Rd) (w : World) (hlen : l.length ≤ 1048576) (hv : RAt w v l) :
    Calls Try.prog 59 #[.agg #[.float .f32 a.T, .float .f32 a.S], .agg s.cells, v] w fun e w' => e = .returned (.int .i64 (askF a.ok s l)) ∧ Below w.heap.size w w' := by
  have HS := Lib.hid hs
  have HV := Lib.hid hv
  clear hs hv
  cases ha : a.ok
  · have HA : Hid (okA (fb a.T) (fb a.S) = false) := ha
    have HK : Hid (askF false s l = 1) := rfl
    clear ha
    go_enter Try.func59, Try.ntmps59
    go_wp2_with (with_reducible refine wpList_box rfl ?_)
    intro bA wA hA1 hA2 hA3 hA4
    go_wp2_with (with_reducible refine wpList_box rfl ?_)
    intro b w1 hB1 hB2 hB3 hB4
    have HG := Lib.hid (hA3.later hB4)
    have HB := Lib.hid (below_next hA4 hB4)
    clear hA3 hA4 hB3 hB4
    go_wp2_with (first | ((with_reducible refine wpList_get HG.out Try.underlying42 rfl (by kernel_rfl) ?_ ?_); rfl) | (go_at_call 68; refine (l03Aquifer_any a.T a.S _).mono ?_; rw [HA.out]; rintro e w2 ⟨rfl, hb2⟩))
    go_ret
    exact ⟨by rw [HK.out]; rfl, below_next HB.out hb2⟩
  · have HA : Hid (okA (fb a.T) (fb a.S) = true) := ha
    clear ha
    cases hso : s.ok
    · have HSO := Lib.hid hso
      have HK : Hid (askF true s l = 1) := by show _ = _; unfold askF; rw [hso]; rfl
      clear hso
      go_enter Try.func59, Try.ntmps59
      go_wp2_with (with_reducible refine wpList_box rfl ?_)
      intro bA wA hA1 hA2 hA3 hA4
      go_wp2_with (with_reducible refine wpList_box rfl ?_)
      intro b w1 hB1 hB2 hB3 hB4
      have HG := Lib.hid (hA3.later hB4)
      have HBk := Lib.hid hB3
      have HB := Lib.hid (below_next hA4 hB4)
      clear hA3 hA4 hB3 hB4
      go_wp2_with (first | ((with_reducible refine wpList_get HG.out Try.underlying42 rfl (by kernel_rfl) ?_ ?_); rfl) | (go_at_call 68; refine (l03Aquifer_any a.T a.S _).mono ?_; rw [HA.out]; rintro e w2 ⟨rfl, hb2⟩; have HBk2 := Lib.hid (HBk.out.later hb2)) | ((with_reducible refine wpList_getgd ?_ HBk2.out Try.underlying46 rfl (by kernel_rfl) ?_ ?_); (exact rfl); rfl) | (go_at_call 69; refine (l04Site_any s HS.out _).mono ?_; rw [HSO.out]; rintro e w3 ⟨rfl, hb3⟩))
      go_ret
      exact ⟨by rw [HK.out]; rfl, below_next (below_next HB.out hb2) hb3⟩
    · have HSO := Lib.hid hso
      have HK : Hid (askF true s l = if okR l = true then 0 else 1) := by show _ = _; unfold askF; rw [hso]; rfl
      clear hso
      go_enter Try.func59, Try.ntmps59
      go_wp2_with (with_reducible refine wpList_box rfl ?_)
      intro bA wA hA1 hA2 hA3 hA4
      go_wp2_with (with_reducible refine wpList_box rfl ?_)
      intro b w1 hB1 hB2 hB3 hB4
      have HG := Lib.hid (hA3.later hB4)
      have HBk := Lib.hid hB3
      have HB := Lib.hid (below_next hA4 hB4)
      clear hA3 hA4 hB3 hB4
      cases hro : okR l
      all_goals
        have HRO := Lib.hid hro
        rw [hro] at HK
        clear hro
        go_wp2_with (first | ((with_reducible refine wpList_get HG.out Try.underlying42 rfl (by kernel_rfl) ?_ ?_); rfl) | (go_at_call 68; refine (l03Aquifer_any a.T a.S _).mono ?_; rw [HA.out]; rintro e w2 ⟨rfl, hb2⟩; have HBk2 := Lib.hid (HBk.out.later hb2)) | ((with_reducible refine wpList_getgd ?_ HBk2.out Try.underlying46 rfl (by kernel_rfl) ?_ ?_); (exact rfl); rfl) | (go_at_call 69; refine (l04Site_any s HS.out _).mono ?_; rw [HSO.out]; rintro e w3 ⟨rfl, hb3⟩; have HB3 := Lib.hid (below_next (below_next HB.out hb2) hb3)) | (go_at_call 47; refine (l04Ok_any v l _ hlen (HV.out.far HB3.out)).mono ?_; rw [HRO.out]; rintro e w4 ⟨rfl, hb4⟩))
        go_ret
        exact ⟨by rw [HK.out]; rfl, below_next HB3.out hb4⟩
end Go.Proofs.Ytonmdkhfongmhaa
