/- The code of a brine and a cell. -/
import Derived.Test.YtfcphfdfpjmgiaaBrOut
namespace Go.Proofs.Ytfcphfdfpjmgiaa
open Go.RowKit

def askB (n : N) (z : Int) : Int := if okB n then (if decide (0 ≤ z ∧ z ≤ 63) && hasB n.g.wide n.g.high z.toNat then 0 else 2) else 1
theorem okB_g {n : N} (h : okB n = true) : okI n.g = true := by
  unfold okB at h
  simp only [Bool.and_eq_true] at h
  exact h.1
theorem askB_bad {n : N} {z : Int} (h : okB n = false) : askB n z = 1 := by unfold askB; rw [h]; rfl
theorem askB_out {n : N} {z : Int} (h : okB n = true) (hz : ¬ (0 ≤ z ∧ z ≤ 63)) : askB n z = 2 := by unfold askB; rw [h, decide_eq_false hz]; rfl
theorem askB_no {n : N} {k : Nat} (h : okB n = true) (hk : k < 64) (hh : hasB n.g.wide n.g.high k = false) : askB n k = 2 := by
  unfold askB; rw [h, decide_eq_true (by omega)]; show (if (true && hasB n.g.wide n.g.high k) = true then _ else _) = _; rw [hh]; rfl
theorem askB_yes {n : N} {k : Nat} (h : okB n = true) (hk : k < 64) (hh : hasB n.g.wide n.g.high k = true) : askB n k = 0 := by
  unfold askB; rw [h, decide_eq_true (by omega)]; show (if (true && hasB n.g.wide n.g.high k) = true then _ else _) = _; rw [hh]; rfl
theorem askB_zero {n : N} {z : Int} (h : askB n z = 0) : okB n = true ∧ ∃ k : Nat, z = k ∧ k < 64 ∧ hasB n.g.wide n.g.high k = true := by
  unfold askB at h
  split at h
  · rename_i ho
    split at h
    · rename_i hb
      rw [Bool.and_eq_true] at hb
      obtain ⟨h1, h2⟩ := hb
      have h1 := of_decide_eq_true h1
      exact ⟨ho, z.toNat, by omega, by omega, h2⟩
    · exact absurd h (by decide)
  · exact absurd h (by decide)
theorem is_out (b o : Nat) (z : Int) (w : World) (hz : ¬ (0 ≤ z ∧ z ≤ 63)) :
    Calls Try.prog 111 #[.pointer (some ⟨b, o, none⟩), .int .i64 z] w fun e w' => e = .returned (.bool false) ∧ w = w' := by
  go_enter Try.func111, Try.ntmps111
  go_wp2_with (go_at_call 96; refine (l00In_no _ _ _ _ hz).mono ?_; rintro e w' ⟨rfl, rfl⟩)
  go_ret
  exact ⟨rfl, rfl⟩

set_option maxRecDepth 100000 in
set_option maxHeartbeats 800000 in
theorem l05Asked_any (b : Nat) (t : TypeId) (z : Int) (x : Br) (w : World) (hr : x.gr.Rng) (hx : x.gr.Fx) (hX : Blk w b (arrB x) t) :
    Calls Try.prog 139 #[.pointer (some ⟨b, 0, none⟩), .int .i64 z] w (RetI .i64 (askB x.n z) w) := by
  cases hok : okB x.n
  · have HA : Hid (askB x.n z = 1) := askB_bad hok
    have HOK := Lib.hid hok
    clear hok
    go_enter Try.func139, Try.ntmps139
    go_wp2_with fail
    refine (l05Ok_any b x w hr hx (BAt.of_blk hX)).mono ?_
    rw [HOK.out]
    rintro e w1 ⟨rfl, hb1⟩
    have HB1 := Lib.hid hb1
    have HX1 := Lib.hid ((BAt.of_blk hX).below hb1)
    clear hb1 hX
    go_wp2_with fail
    go_ret
    exact ⟨ret_int HA.out.symm, HB1.out⟩
  · have HOK := Lib.hid hok
    by_cases hz : 0 ≤ z ∧ z ≤ 63
    · obtain ⟨k, rfl⟩ : ∃ k : Nat, z = k := ⟨z.toNat, by omega⟩
      have hk : k < 64 := by omega
      cases hh : hasB x.gr.wide x.gr.high k
      · have HA : Hid (askB x.n k = 2) := askB_no hok hk hh
        have HH := Lib.hid hh
        clear hok hh hz
        go_enter Try.func139, Try.ntmps139
        go_wp2_with fail
        refine (l05Ok_any b x w hr hx (BAt.of_blk hX)).mono ?_
        rw [HOK.out]
        rintro e w1 ⟨rfl, hb1⟩
        have HB1 := Lib.hid hb1
        have HX1 := Lib.hid ((BAt.of_blk hX).below hb1)
        clear hb1 hX
        go_wp2_with (go_at_call 111; refine (l01Is_any b 0 k x.gr _ hk hr HX1.out.g).mono ?_; rw [HH.out]; rintro e w' ⟨rfl, rfl⟩)
        go_ret
        exact ⟨ret_int HA.out.symm, HB1.out⟩
      · have HA : Hid (askB x.n k = 0) := askB_yes hok hk hh
        have HH := Lib.hid hh
        clear hok hh hz
        go_enter Try.func139, Try.ntmps139
        go_wp2_with fail
        refine (l05Ok_any b x w hr hx (BAt.of_blk hX)).mono ?_
        rw [HOK.out]
        rintro e w1 ⟨rfl, hb1⟩
        have HB1 := Lib.hid hb1
        have HX1 := Lib.hid ((BAt.of_blk hX).below hb1)
        clear hb1 hX
        go_wp2_with (go_at_call 111; refine (l01Is_any b 0 k x.gr _ hk hr HX1.out.g).mono ?_; rw [HH.out]; rintro e w' ⟨rfl, rfl⟩)
        go_ret
        exact ⟨ret_int HA.out.symm, HB1.out⟩
    · have HA : Hid (askB x.n z = 2) := askB_out hok hz
      clear hok
      go_enter Try.func139, Try.ntmps139
      go_wp2_with fail
      refine (l05Ok_any b x w hr hx (BAt.of_blk hX)).mono ?_
      rw [HOK.out]
      rintro e w1 ⟨rfl, hb1⟩
      have HB1 := Lib.hid hb1
      have HX1 := Lib.hid ((BAt.of_blk hX).below hb1)
      clear hb1 hX
      go_wp2_with (go_at_call 111; refine (is_out b 0 z _ hz).mono ?_; rintro e w' ⟨rfl, rfl⟩)
      go_ret
      exact ⟨ret_int HA.out.symm, HB1.out⟩

set_option maxRecDepth 100000 in
set_option maxHeartbeats 800000 in
theorem cellFault_out (b : Nat) (z : Int) (x : Br) (w : World) (hr : x.gr.Rng) (hok : okB x.n = true) (hz : ¬ (0 ≤ z ∧ z ≤ 63)) (hX : BAt w b x) :
    Calls Try.prog 114 #[.pointer (some ⟨b, 0, none⟩), .int .i64 z] w (RetI .i64 2 w) := by
  have HOK : Hid (okI x.gr.m = true) := okB_g hok
  clear hok
  go_enter Try.func114, Try.ntmps114
  go_wp2_with ((with_reducible refine wpList_getBG hX ?_ ?_); rfl)
  refine (ValidGround_any x.gr w hr).mono ?_
  rw [HOK.out]
  rintro e w1 ⟨rfl, hb1⟩
  have HB1 := Lib.hid hb1
  have HX1 := Lib.hid (hX.below hb1)
  clear hb1 hX
  go_wp2_with (go_at_call 103; refine (in_no _ _ _ _ hz).mono ?_; rintro e w' ⟨rfl, rfl⟩)
  go_ret
  exact ⟨rfl, HB1.out⟩

set_option maxRecDepth 100000 in
set_option maxHeartbeats 800000 in
theorem cellFault_in (b k : Nat) (x : Br) (w : World) (hr : x.gr.Rng) (hok : okB x.n = true) (hk : k < 64) (hX : BAt w b x) :
    Calls Try.prog 114 #[.pointer (some ⟨b, 0, none⟩), .int .i64 k] w (RetI .i64 (if hasB x.gr.wide x.gr.high k then 0 else 2) w) := by
  have HOK : Hid (okI x.gr.m = true) := okB_g hok
  clear hok
  cases hh : hasB x.gr.wide x.gr.high k
  · have HH := Lib.hid hh
    clear hh
    go_enter Try.func114, Try.ntmps114
    go_wp2_with ((with_reducible refine wpList_getBG hX ?_ ?_); rfl)
    refine (ValidGround_any x.gr w hr).mono ?_
    rw [HOK.out]
    rintro e w1 ⟨rfl, hb1⟩
    have HB1 := Lib.hid hb1
    have HX1 := Lib.hid (hX.below hb1)
    clear hb1 hX
    go_wp2_with (first | (go_at_call 103; refine (in_yes _ _ _ _ (by omega) (by omega)).mono ?_; rintro e w' ⟨rfl, rfl⟩) | (go_at_call 178; refine (has_any b 0 k x.gr _ hk hr HX1.out.g).mono ?_; rw [HH.out]; rintro e w' ⟨rfl, rfl⟩))
    go_ret
    exact ⟨rfl, HB1.out⟩
  · have HH := Lib.hid hh
    clear hh
    go_enter Try.func114, Try.ntmps114
    go_wp2_with ((with_reducible refine wpList_getBG hX ?_ ?_); rfl)
    refine (ValidGround_any x.gr w hr).mono ?_
    rw [HOK.out]
    rintro e w1 ⟨rfl, hb1⟩
    have HB1 := Lib.hid hb1
    have HX1 := Lib.hid (hX.below hb1)
    clear hb1 hX
    go_wp2_with (first | (go_at_call 103; refine (in_yes _ _ _ _ (by omega) (by omega)).mono ?_; rintro e w' ⟨rfl, rfl⟩) | (go_at_call 178; refine (has_any b 0 k x.gr _ hk hr HX1.out.g).mono ?_; rw [HH.out]; rintro e w' ⟨rfl, rfl⟩))
    go_ret
    exact ⟨rfl, HB1.out⟩

set_option maxRecDepth 100000 in
set_option maxHeartbeats 800000 in
theorem brineFault_any (b : Nat) (t : TypeId) (z : Int) (x : Br) (w : World) (hr : x.gr.Rng) (hx : x.gr.Fx) (hX : Blk w b (arrB x) t) :
    Calls Try.prog 137 #[.pointer (some ⟨b, 0, none⟩), .int .i64 z] w (RetI .i64 (askB x.n z) w) := by
  cases hok : okB x.n
  · have HA : Hid (askB x.n z = 1) := askB_bad hok
    have HOK := Lib.hid hok
    clear hok
    go_enter Try.func137, Try.ntmps137
    go_wp2_with ((with_reducible refine wpList_getB hX ?_ ?_); rfl)
    refine (ValidBrine_any x w hr hx).mono ?_
    rw [HOK.out]
    rintro e w1 ⟨rfl, hb1⟩
    have HB1 := Lib.hid hb1
    have HX1 := Lib.hid ((BAt.of_blk hX).below hb1)
    clear hb1 hX
    go_wp2_with fail
    go_ret
    exact ⟨ret_int HA.out.symm, HB1.out⟩
  · have HOK := Lib.hid hok
    by_cases hz : 0 ≤ z ∧ z ≤ 63
    · obtain ⟨k, rfl⟩ : ∃ k : Nat, z = k := ⟨z.toNat, by omega⟩
      have hk : k < 64 := by omega
      cases hh : hasB x.gr.wide x.gr.high k
      · have HA : Hid (askB x.n k = 2) := askB_no hok hk hh
        have HH := Lib.hid hh
        clear hok hh hz
        go_enter Try.func137, Try.ntmps137
        go_wp2_with ((with_reducible refine wpList_getB hX ?_ ?_); rfl)
        refine (ValidBrine_any x w hr hx).mono ?_
        rw [HOK.out]
        rintro e w1 ⟨rfl, hb1⟩
        have HB1 := Lib.hid hb1
        have HX1 := Lib.hid ((BAt.of_blk hX).below hb1)
        clear hb1 hX
        go_wp2_with fail
        refine (cellFault_in b k x w1 hr HOK.out hk HX1.out).mono ?_
        rw [HH.out]
        rintro e w2 ⟨rfl, hb2⟩
        have HB2 := Lib.hid (HB1.out.trans (hb2.mono HB1.out.size))
        clear hb2
        go_wp2_with fail
        go_ret
        exact ⟨ret_int HA.out.symm, HB2.out⟩
      · have HA : Hid (askB x.n k = 0) := askB_yes hok hk hh
        have HH := Lib.hid hh
        clear hok hh hz
        go_enter Try.func137, Try.ntmps137
        go_wp2_with ((with_reducible refine wpList_getB hX ?_ ?_); rfl)
        refine (ValidBrine_any x w hr hx).mono ?_
        rw [HOK.out]
        rintro e w1 ⟨rfl, hb1⟩
        have HB1 := Lib.hid hb1
        have HX1 := Lib.hid ((BAt.of_blk hX).below hb1)
        clear hb1 hX
        go_wp2_with fail
        refine (cellFault_in b k x w1 hr HOK.out hk HX1.out).mono ?_
        rw [HH.out]
        rintro e w2 ⟨rfl, hb2⟩
        have HB2 := Lib.hid (HB1.out.trans (hb2.mono HB1.out.size))
        clear hb2
        go_wp2_with fail
        go_ret
        exact ⟨ret_int HA.out.symm, HB2.out⟩
    · have HA : Hid (askB x.n z = 2) := askB_out hok hz
      clear hok
      go_enter Try.func137, Try.ntmps137
      go_wp2_with ((with_reducible refine wpList_getB hX ?_ ?_); rfl)
      refine (ValidBrine_any x w hr hx).mono ?_
      rw [HOK.out]
      rintro e w1 ⟨rfl, hb1⟩
      have HB1 := Lib.hid hb1
      have HX1 := Lib.hid ((BAt.of_blk hX).below hb1)
      clear hb1 hX
      go_wp2_with fail
      refine (cellFault_out b z x w1 hr HOK.out hz HX1.out).mono ?_
      rintro e w2 ⟨rfl, hb2⟩
      have HB2 := Lib.hid (HB1.out.trans (hb2.mono HB1.out.size))
      clear hb2
      go_wp2_with fail
      go_ret
      exact ⟨ret_int HA.out.symm, HB2.out⟩

end Go.Proofs.Ytfcphfdfpjmgiaa
