/- The reference's code of an aquifer, wells, a place and a time: the walk. -/
import Derived.Test.YtbhnnglpakdigaaWfault
namespace Go.Proofs.Ytbhnnglpakdigaa
open Go.RowKit

def WokRel (A : Bool) (l : List We) (w : World) (v11 v12 : Value) (wr : World) : Prop :=
  ∃ (j : Nat) (ok : Bool), j ≤ l.length ∧ v12 = .int .i64 j ∧ v11 = .bool ok ∧ ok = (A && (l.take j).all We.ok) ∧ Below w.heap.size w wr

set_option maxRecDepth 100000 in
set_option maxHeartbeats 3200000 in
theorem l03Asked_any (T S : Nat) (v : Value) (l : List We) (x y t : Int) (w : World) (hlen : l.length < 9223372036854775808) (hv : WAt w v l) :
    Calls Try.prog 50 #[.agg #[.float .f32 T, .float .f32 S], v, .int .i64 x, .int .i64 y, .int .i64 t] w (RetI .i64 (askW (okA (fb T) (fb S)) l x y [t]) w) := by
  obtain ⟨aL, cap, rfl, hL⟩ := hv
  have HL := Lib.hid hL
  clear hL
  obtain ⟨A, hA⟩ : ∃ A, okA (fb T) (fb S) = A := ⟨_, rfl⟩
  rw [hA]
  have HA := Lib.hid hA
  clear hA
  go_enter Try.func50, Try.ntmps50
  go_wp2_with (with_reducible refine wpList_box rfl ?_)
  intro b w1 hB1 hB2 hB3 hB4
  have HG := Lib.hid hB3
  have HB := Lib.hid hB4
  clear hB3 hB4
  go_wp2_with ((with_reducible refine wpList_get HG.out Try.underlying30 rfl (by kernel_rfl) ?_ ?_); rfl)
  refine (l03Aquifer_any T S w1).mono ?_
  rw [HA.out]
  rintro e w2 ⟨rfl, hb2⟩
  have HB2 := Lib.hid (below_next HB.out hb2)
  have HF2 := Lib.hid (hB1)
  clear hb2
  go_wp2_with fail
  go_loopw [11, 12] (fun v11 v12 wr => WokRel A l w v11 v12 wr) (fun _ v12 _ => l.length - (intOf v12).toNat)
  case atStart => exact ⟨0, A, by omega, rfl, rfl, by simp, HB2.out⟩
  case round =>
    obtain ⟨j, ok, hj, rfl, rfl, hok, hBr⟩ := hrel
    have HOK := Lib.hid hok
    have HBR := Lib.hid hBr
    clear hok hBr
    by_cases hgo : j < l.length ∧ ok = true
    · obtain ⟨hlt, rfl⟩ := hgo
      obtain ⟨e, he⟩ : ∃ e, l[j]? = some e := ⟨_, List.getElem?_eq_getElem hlt⟩
      obtain ⟨hrng, gq, rfl, hq⟩ := HL.out j e he
      have HQ := Lib.hid (range_below hq HBR.out)
      have HE := Lib.hid he
      have j1 : (j : Int) < (l.length : Int) := by omega
      clear hq he
      go_wp2_with (first | ((with_reducible refine wpList_gateL ?_); refine wpList_load_mid rfl _ _ rfl gq (j * 3) rfl e.cells _ HQ.out Try.underlying32 rfl sizeWell ?_) | (go_at_call 62; refine (l03Ok_any e.x e.y e.r _ hrng.1 hrng.2).mono ?_; rintro e2 w3 ⟨rfl, hb3⟩))
      go_roundw
      case rel =>
        refine ⟨j + 1, _, by omega, by go_num, rfl, ?_, below_next HBR.out hb3⟩
        rw [take_more' HE.out, List.all_append]
        have := HOK.out
        have h2 : A = true ∧ (l.take j).all We.ok = true := by simpa using this.symm
        rw [h2.1, h2.2]
        simp [We.ok]
      case measure => simp [intOf]; omega
    · have HW : Hid (ok = (A && l.all We.ok)) := by
        show _ = _
        by_cases hlt : j < l.length
        · have hf : ok = false := by
            cases ok
            · rfl
            · exact absurd ⟨hlt, rfl⟩ hgo
          have := HOK.out
          rw [hf] at this ⊢
          cases A
          · rfl
          · have h3 : (l.take j).all We.ok = false := by simpa using this.symm
            symm
            show l.all We.ok = false
            rw [List.all_eq_false] at h3 ⊢
            obtain ⟨z, hz1, hz2⟩ := h3
            exact ⟨z, List.mem_of_mem_take hz1, hz2⟩
        · rw [HOK.out, List.take_of_length_le (by omega)]
      obtain ⟨c, hc⟩ : ∃ c, ok = c := ⟨_, rfl⟩
      have hcase : (¬ (j : Int) < (l.length : Int)) ∨ ((j : Int) < (l.length : Int) ∧ ok = false) := by
        by_cases hlt : j < l.length
        · refine .inr ⟨by omega, ?_⟩
          cases ok
          · rfl
          · exact absurd ⟨hlt, rfl⟩ hgo
        · exact .inl (by omega)
      clear hgo hc c
      have hR : ∀ c, c = ok → askW A l x y [t] = (if c then (if 12 < l.length then 3 else if placeB x && placeB y && momB t then 0 else 2) else 1) := by
        rintro c rfl
        rw [HW.out]
        unfold askW
        simp
      have HRR := Lib.hid hR
      clear hR
      cases ok
      · have HR : Hid (askW A l x y [t] = 1) := by show _ = _; rw [HRR.out false rfl]; rfl
        rcases hcase with h1 | ⟨h1, _⟩
        · go_wp2_with fail
          go_ret
          exact ⟨ret_int HR.out.symm, HBR.out⟩
        · go_wp2_with fail
          go_ret
          exact ⟨ret_int HR.out.symm, HBR.out⟩
      · have h1 : ¬ (j : Int) < (l.length : Int) := by rcases hcase with h | ⟨_, h⟩; exact h; cases h
        clear hcase
        by_cases h12 : 12 < l.length
        · have HR : Hid (askW A l x y [t] = 3) := by show _ = _; rw [HRR.out true rfl, if_pos rfl, if_pos h12]
          have i12 : (12 : Int) < (l.length : Int) := by omega
          clear h12
          go_wp2_with fail
          go_ret
          exact ⟨ret_int HR.out.symm, HBR.out⟩
        · have i12 : ¬ (12 : Int) < (l.length : Int) := by omega
          cases hX : placeB x
          · have HX := Lib.hid hX
            have HR : Hid (askW A l x y [t] = 2) := by show _ = _; rw [HRR.out true rfl, if_pos rfl, if_neg h12, hX]; rfl
            clear h12 hX
            go_wp2_with (go_at_call 77; refine (l03Place_any x _).mono ?_; rw [HX.out]; rintro e w' ⟨rfl, rfl⟩)
            go_ret
            exact ⟨ret_int HR.out.symm, HBR.out⟩
          · cases hY : placeB y
            · have HX := Lib.hid hX
              have HY := Lib.hid hY
              have HR : Hid (askW A l x y [t] = 2) := by show _ = _; rw [HRR.out true rfl, if_pos rfl, if_neg h12, hX, hY]; rfl
              clear h12 hX hY
              go_wp2_with (first | (go_at_call 77; refine (l03Place_any x _).mono ?_; rw [HX.out]; rintro e w' ⟨rfl, rfl⟩) | (go_at_call 77; refine (l03Place_any y _).mono ?_; rw [HY.out]; rintro e w' ⟨rfl, rfl⟩))
              go_ret
              exact ⟨ret_int HR.out.symm, HBR.out⟩
            · cases hM : momB t
              · have HX := Lib.hid hX
                have HY := Lib.hid hY
                have HM := Lib.hid hM
                have HR : Hid (askW A l x y [t] = 2) := by show _ = _; rw [HRR.out true rfl, if_pos rfl, if_neg h12, hX, hY, hM]; rfl
                clear h12 hX hY hM
                go_wp2_with (first | (go_at_call 77; refine (l03Place_any x _).mono ?_; rw [HX.out]; rintro e w' ⟨rfl, rfl⟩) | (go_at_call 77; refine (l03Place_any y _).mono ?_; rw [HY.out]; rintro e w' ⟨rfl, rfl⟩) | (go_at_call 55; refine (l03Moment_any t _).mono ?_; rw [HM.out]; rintro e w' ⟨rfl, rfl⟩))
                go_ret
                exact ⟨ret_int HR.out.symm, HBR.out⟩
              · have HX := Lib.hid hX
                have HY := Lib.hid hY
                have HM := Lib.hid hM
                have HR : Hid (askW A l x y [t] = 0) := by show _ = _; rw [HRR.out true rfl, if_pos rfl, if_neg h12, hX, hY, hM]; rfl
                clear h12 hX hY hM
                go_wp2_with (first | (go_at_call 77; refine (l03Place_any x _).mono ?_; rw [HX.out]; rintro e w' ⟨rfl, rfl⟩) | (go_at_call 77; refine (l03Place_any y _).mono ?_; rw [HY.out]; rintro e w' ⟨rfl, rfl⟩) | (go_at_call 55; refine (l03Moment_any t _).mono ?_; rw [HM.out]; rintro e w' ⟨rfl, rfl⟩))
                go_ret
                exact ⟨ret_int HR.out.symm, HBR.out⟩
end Go.Proofs.Ytbhnnglpakdigaa
