/- The code of an aquifer, wells, a place and times: the walk. -/
import Derived.Test.YtbhnnglpakdigaaWask
namespace Go.Proofs.Ytbhnnglpakdigaa
open Go.RowKit

def askW (A : Bool) (l : List We) (x y : Int) (ts : List Int) : Int := if A && l.all We.ok then (if 12 < l.length then 3 else if placeB x && placeB y && ts.all momB then 0 else 2) else 1

theorem WAt.far {w w' : World} {v : Value} {l : List We} (h : WAt w v l) (hb : Below w.heap.size w w') : WAt w' v l := by
  obtain ⟨a, cap, e, hL⟩ := h
  refine ⟨a, cap, e, fun j x hx => ?_⟩
  obtain ⟨h1, g, h2, h3⟩ := hL j x hx
  exact ⟨h1, g, h2, range_below h3 hb⟩
theorem TAt.far {w w' : World} {v : Value} {l : List Int} (h : TAt w v l) (hb : Below w.heap.size w w') : TAt w' v l := by
  obtain ⟨a, cap, e, hL⟩ := h
  refine ⟨a, cap, e, fun j x hx => ?_⟩
  obtain ⟨g, h2, h3⟩ := hL j x hx
  exact ⟨g, h2, cell_below hb h3⟩

set_option maxRecDepth 100000 in
set_option maxHeartbeats 3200000 in
theorem momentsFault_any (T S : Nat) (v vt : Value) (l : List We) (x y : Int) (ts : List Int) (w : World) (hlen : l.length < 9223372036854775808) (hv : WAt w v l) (htl : ts.length ≤ 64) (ht : TAt w vt ts) :
    Calls Try.prog 53 #[.agg #[.float .f32 T, .float .f32 S], v, .int .i64 x, .int .i64 y, vt] w (RetI .i64 (askW (okA (fb T) (fb S)) l x y ts) w) := by
  obtain ⟨aL, cap, hvv, _⟩ := id hv
  have HV := Lib.hid hv
  have HT := Lib.hid ht
  clear hv ht
  subst hvv
  obtain ⟨A, hA⟩ : ∃ A, okA (fb T) (fb S) = A := ⟨_, rfl⟩
  rw [hA]
  cases A
  · have HA := Lib.hid hA
    have HR : Hid (askW false l x y ts = 1) := by show _ = _; unfold askW; rfl
    clear hA
    go_enter Try.func53, Try.ntmps53
    go_wp2_with (with_reducible refine wpList_box rfl ?_)
    intro b w1 hB1 hB2 hB3 hB4
    have HG := Lib.hid hB3
    have HB := Lib.hid hB4
    clear hB3 hB4
    go_wp2_with (first | ((with_reducible refine wpList_get HG.out Try.underlying30 rfl (by kernel_rfl) ?_ ?_); rfl)  | (go_at_call 80; refine (ValidAquifer_any T S _).mono ?_; rw [HA.out]; rintro e w2 ⟨rfl, hb2⟩))
    go_ret
    exact ⟨ret_int HR.out.symm, below_next HB.out hb2⟩
  · have HA := Lib.hid hA
    cases hW : l.all We.ok
    · have HW : Hid ((!(l.all We.ok)) = true) := by show _ = _; rw [hW]; rfl
      have HR : Hid (askW true l x y ts = 1) := by show _ = _; unfold askW; rw [hW]; rfl
      clear hW
      go_enter Try.func53, Try.ntmps53
      go_wp2_with (with_reducible refine wpList_box rfl ?_)
      intro b w1 hB1 hB2 hB3 hB4
      have HG := Lib.hid hB3
      have HB := Lib.hid hB4
      clear hB3 hB4
      go_wp2_with (first | ((with_reducible refine wpList_get HG.out Try.underlying30 rfl (by kernel_rfl) ?_ ?_); rfl)  | (go_at_call 80; refine (ValidAquifer_any T S _).mono ?_; rw [HA.out]; rintro e w2 ⟨rfl, hb2⟩)  | (go_at_call 65; refine (ContainsW_any _ l _ hlen (HV.out.far (below_next HB.out hb2))).mono ?_; rw [HW.out]; rintro e w3 ⟨rfl, hb3⟩))
      go_ret
      exact ⟨ret_int HR.out.symm, below_next (below_next HB.out hb2) hb3⟩
    · have HW : Hid ((!(l.all We.ok)) = false) := by show _ = _; rw [hW]; rfl
      by_cases h12 : 12 < l.length
      · have i12 : (12 : Int) < (l.length : Int) := by omega
        have HL12 := Lib.hid h12
        have HR : Hid (askW true l x y ts = 3) := by show _ = _; unfold askW; rw [hW, if_pos (by rfl), if_pos h12]
        clear hW h12
        go_enter Try.func53, Try.ntmps53
        go_wp2_with (with_reducible refine wpList_box rfl ?_)
        intro b w1 hB1 hB2 hB3 hB4
        have HG := Lib.hid hB3
        have HB := Lib.hid hB4
        clear hB3 hB4
        go_wp2_with (first | ((with_reducible refine wpList_get HG.out Try.underlying30 rfl (by kernel_rfl) ?_ ?_); rfl)  | (go_at_call 80; refine (ValidAquifer_any T S _).mono ?_; rw [HA.out]; rintro e w2 ⟨rfl, hb2⟩)  | (go_at_call 65; refine (ContainsW_any _ l _ hlen (HV.out.far (below_next HB.out hb2))).mono ?_; rw [HW.out]; rintro e w3 ⟨rfl, hb3⟩))
        go_ret
        exact ⟨ret_int HR.out.symm, below_next (below_next HB.out hb2) hb3⟩
      · have i12 : ¬ (12 : Int) < (l.length : Int) := by omega
        cases hX : placeB x
        · have HX := Lib.hid hX
          have HR : Hid (askW true l x y ts = 2) := by show _ = _; unfold askW; rw [hW, if_pos (by rfl), if_neg h12, hX]; rfl
          clear hW h12 hX
          go_enter Try.func53, Try.ntmps53
          go_wp2_with (with_reducible refine wpList_box rfl ?_)
          intro b w1 hB1 hB2 hB3 hB4
          have HG := Lib.hid hB3
          have HB := Lib.hid hB4
          clear hB3 hB4
          go_wp2_with (first | ((with_reducible refine wpList_get HG.out Try.underlying30 rfl (by kernel_rfl) ?_ ?_); rfl)  | (go_at_call 80; refine (ValidAquifer_any T S _).mono ?_; rw [HA.out]; rintro e w2 ⟨rfl, hb2⟩)  | (go_at_call 65; refine (ContainsW_any _ l _ hlen (HV.out.far (below_next HB.out hb2))).mono ?_; rw [HW.out]; rintro e w3 ⟨rfl, hb3⟩)  | (go_at_call 61; refine (isPlace_any x _).mono ?_; rw [HX.out]; rintro e w' ⟨rfl, rfl⟩))
          go_ret
          exact ⟨ret_int HR.out.symm, below_next (below_next HB.out hb2) hb3⟩
        · have HX := Lib.hid hX
          cases hY : placeB y
          · have HY := Lib.hid hY
            have HR : Hid (askW true l x y ts = 2) := by show _ = _; unfold askW; rw [hW, if_pos (by rfl), if_neg h12, hX, hY]; rfl
            clear hW h12 hX hY
            go_enter Try.func53, Try.ntmps53
            go_wp2_with (with_reducible refine wpList_box rfl ?_)
            intro b w1 hB1 hB2 hB3 hB4
            have HG := Lib.hid hB3
            have HB := Lib.hid hB4
            clear hB3 hB4
            go_wp2_with (first | ((with_reducible refine wpList_get HG.out Try.underlying30 rfl (by kernel_rfl) ?_ ?_); rfl)  | (go_at_call 80; refine (ValidAquifer_any T S _).mono ?_; rw [HA.out]; rintro e w2 ⟨rfl, hb2⟩)  | (go_at_call 65; refine (ContainsW_any _ l _ hlen (HV.out.far (below_next HB.out hb2))).mono ?_; rw [HW.out]; rintro e w3 ⟨rfl, hb3⟩)  | (go_at_call 61; refine (isPlace_any x _).mono ?_; rw [HX.out]; rintro e w' ⟨rfl, rfl⟩)  | (go_at_call 61; refine (isPlace_any y _).mono ?_; rw [HY.out]; rintro e w' ⟨rfl, rfl⟩))
            go_ret
            exact ⟨ret_int HR.out.symm, below_next (below_next HB.out hb2) hb3⟩
          · have HY := Lib.hid hY
            cases hT : ts.all momB
            · have HTT : Hid ((!(ts.all momB)) = true) := by show _ = _; rw [hT]; rfl
              have HR : Hid (askW true l x y ts = 2) := by show _ = _; unfold askW; rw [hW, if_pos (by rfl), if_neg h12, hX, hY, hT]; rfl
              clear hW h12 hX hY hT
              go_enter Try.func53, Try.ntmps53
              go_wp2_with (with_reducible refine wpList_box rfl ?_)
              intro b w1 hB1 hB2 hB3 hB4
              have HG := Lib.hid hB3
              have HB := Lib.hid hB4
              clear hB3 hB4
              go_wp2_with (first | ((with_reducible refine wpList_get HG.out Try.underlying30 rfl (by kernel_rfl) ?_ ?_); rfl)  | (go_at_call 80; refine (ValidAquifer_any T S _).mono ?_; rw [HA.out]; rintro e w2 ⟨rfl, hb2⟩)  | (go_at_call 65; refine (ContainsW_any _ l _ hlen (HV.out.far (below_next HB.out hb2))).mono ?_; rw [HW.out]; rintro e w3 ⟨rfl, hb3⟩)  | (go_at_call 61; refine (isPlace_any x _).mono ?_; rw [HX.out]; rintro e w' ⟨rfl, rfl⟩)  | (go_at_call 61; refine (isPlace_any y _).mono ?_; rw [HY.out]; rintro e w' ⟨rfl, rfl⟩)  | (go_at_call 81; refine (ContainsT_any vt ts _ htl (HT.out.far (below_next (below_next HB.out hb2) hb3))).mono ?_; rw [HTT.out]; rintro e w' ⟨rfl, rfl⟩))
              go_ret
              exact ⟨ret_int HR.out.symm, below_next (below_next HB.out hb2) hb3⟩
            · have HTT : Hid ((!(ts.all momB)) = false) := by show _ = _; rw [hT]; rfl
              have HR : Hid (askW true l x y ts = 0) := by show _ = _; unfold askW; rw [hW, if_pos (by rfl), if_neg h12, hX, hY, hT]; rfl
              clear hW h12 hX hY hT
              go_enter Try.func53, Try.ntmps53
              go_wp2_with (with_reducible refine wpList_box rfl ?_)
              intro b w1 hB1 hB2 hB3 hB4
              have HG := Lib.hid hB3
              have HB := Lib.hid hB4
              clear hB3 hB4
              go_wp2_with (first | ((with_reducible refine wpList_get HG.out Try.underlying30 rfl (by kernel_rfl) ?_ ?_); rfl)  | (go_at_call 80; refine (ValidAquifer_any T S _).mono ?_; rw [HA.out]; rintro e w2 ⟨rfl, hb2⟩)  | (go_at_call 65; refine (ContainsW_any _ l _ hlen (HV.out.far (below_next HB.out hb2))).mono ?_; rw [HW.out]; rintro e w3 ⟨rfl, hb3⟩)  | (go_at_call 61; refine (isPlace_any x _).mono ?_; rw [HX.out]; rintro e w' ⟨rfl, rfl⟩)  | (go_at_call 61; refine (isPlace_any y _).mono ?_; rw [HY.out]; rintro e w' ⟨rfl, rfl⟩)  | (go_at_call 81; refine (ContainsT_any vt ts _ htl (HT.out.far (below_next (below_next HB.out hb2) hb3))).mono ?_; rw [HTT.out]; rintro e w' ⟨rfl, rfl⟩))
              go_ret
              exact ⟨ret_int HR.out.symm, below_next (below_next HB.out hb2) hb3⟩
end Go.Proofs.Ytbhnnglpakdigaa
