/- The law on mixtures of brines: its walk. -/
import Derived.Test.YtfddjbpfahjleaaBrMix
import Derived.Test.YtfddjbpfahjleaaChain
namespace Go.Proofs.Ytfddjbpfahjleaa
open Go.RowKit

set_option maxRecDepth 100000 in
set_option maxHeartbeats 3200000 in
theorem law_MixBrines (x y : Br) (t : Nat) (w : World) (hr : x.gr.Rng) (hx : x.gr.Fx) (hr' : y.gr.Rng) (hx' : y.gr.Fx) :
    Calls Try.prog 9 #[.agg (arrB x), .agg (arrB y), .float .f32 t] w (RetB true w) := by
  go_enter Try.func9, Try.ntmps9
  go_wp2_with (with_reducible refine wpList_box rfl ?_)
  intro A w0 hA1 hA2 hA3 hA4
  go_wp2_with (with_reducible refine wpList_box rfl ?_)
  intro C w1 hC1 hC2 hC3 hC4
  have HA1 := hA3.later hC4
  have HC1 := hC3
  have HB1 := Lib.hid (hA4.trans (hC4.mono hA4.size))
  have hlA : A < w1.heap.size := HA1.lt
  have hlC : C < w1.heap.size := HC1.lt
  have hw1 : w.heap.size ≤ w1.heap.size := HB1.out.size
  clear hA3 hA4 hC3 hC4
  go_wp2_with fail
  refine wp_chain (fun _ => arrB B0) (by kernel_rfl) (by kernel_rfl) ?_
  (with_reducible refine n_get HA1 Try.underlying29 rfl (by rw [arrB_size]; exact sizeLB) ?_ ?_); rfl
  refine n_step (fun K hK => ?_); go_simp; refine ⟨_, _, ⟨rfl, rfl⟩, rfl, fun v1 hv1 => ?_⟩
  refine (toBrine_any x v1).mono ?_
  rintro e v2 ⟨rfl, hv2⟩
  refine ⟨_, rfl, hv2, hK _ _ ?_⟩
  clear hK K
  have HQ2 := Lib.hid (below_thru hv1 hv2)
  clear hv1 hv2
  (with_reducible refine n_get HC1 Try.underlying29 rfl (by rw [arrB_size]; exact sizeLB) ?_ ?_); rfl
  refine n_step (fun K hK => ?_); go_simp; refine ⟨_, _, ⟨rfl, rfl⟩, rfl, fun v3 hv3 => ?_⟩
  refine (toBrine_any y v3).mono ?_
  rintro e v4 ⟨rfl, hv4⟩
  refine ⟨_, rfl, hv4, hK _ _ ?_⟩
  clear hK K
  have HQ4 := Lib.hid (below_thru (below_thru HQ2.out hv3) hv4)
  clear hv3 hv4
  (refine n_step (fun K hK => ?_); go_simp; (try go_bits); refine hK _ _ ?_; clear hK K)
  refine n_step (fun K hK => ?_); go_simp; refine ⟨_, _, ⟨rfl, rfl⟩, rfl, fun v5 hv5 => ?_⟩
  refine (specMixBrines_any x y t v5 hr hx hr' hx').mono ?_
  rintro e v6 ⟨ya, rfl, hma, hv6⟩
  refine ⟨_, rfl, hv6, hK _ _ ?_⟩
  clear hK K
  have HQ6 := Lib.hid (below_thru (below_thru HQ4.out hv5) hv6)
  clear hv5 hv6 HQ2 HQ4
  repeat (refine n_step (fun K hK => ?_); go_simp; (try go_bits); refine hK _ _ ?_; clear hK K)
  refine n_alloc newB ?_
  intro Ba hBa
  refine n_put (cells := arrB ya) (old := arrB B0) (fun w2 _ hΦ => hΦ.2.2) hBa HQ6.out (by rw [arrB_size]; exact sizeB) (by rw [arrB_size, arrB_size]) (arrB_one ya) rfl rfl ?_
  intro w2 w2x hb2 hP2 b2x k2x HC2x
  have HQ2 := Lib.hid (below_thru HQ6.out hb2)
  clear hb2 hP2 HQ6
  repeat (refine n_step (fun K hK => ?_); go_simp; (try go_bits); refine hK _ _ ?_; clear hK K)
  refine n_nil ?_
  rintro w3 hw3 _
  have b3 := b2x.later hw3
  have k3 := grown_trans k2x (grown_below hw3)
  clear b2x k2x hw3 HC2x
  have HA3 := (HA1.later HQ2.out).grown k3 (by omega)
  have HC3 := (HC1.later HQ2.out).grown k3 (by omega)
  have HB3 := Lib.hid (below_grown (below_on HB1.out HQ2.out) k3 (Nat.le_trans hw1 HQ2.out.size) (by omega))
  have hlA3 : A < w3.heap.size := HA3.lt
  have hlC3 : C < w3.heap.size := HC3.lt
  have hlB3 : Ba < w3.heap.size := b3.lt
  have hw3 : w.heap.size ≤ w3.heap.size := HB3.out.size
  have HD3 := Lib.hid b3
  have HMA := Lib.hid hma
  clear k3 b3 HA1 HC1 HQ2 hma
  go_wp2_with fail
  refine wp_chain (fun _ => arrB B0) (by kernel_rfl) (by kernel_rfl) ?_
  (with_reducible refine n_get HA3 Try.underlying29 rfl (by rw [arrB_size]; exact sizeLB) ?_ ?_); rfl
  refine n_step (fun K hK => ?_); go_simp; refine ⟨_, _, ⟨rfl, rfl⟩, rfl, fun v1 hv1 => ?_⟩
  refine (toBrine_any x v1).mono ?_
  rintro e v2 ⟨rfl, hv2⟩
  refine ⟨_, rfl, hv2, hK _ _ ?_⟩
  clear hK K
  have HQ2 := Lib.hid (below_thru hv1 hv2)
  clear hv1 hv2
  (with_reducible refine n_get HC3 Try.underlying29 rfl (by rw [arrB_size]; exact sizeLB) ?_ ?_); rfl
  refine n_step (fun K hK => ?_); go_simp; refine ⟨_, _, ⟨rfl, rfl⟩, rfl, fun v3 hv3 => ?_⟩
  refine (toBrine_any y v3).mono ?_
  rintro e v4 ⟨rfl, hv4⟩
  refine ⟨_, rfl, hv4, hK _ _ ?_⟩
  clear hK K
  have HQ4 := Lib.hid (below_thru (below_thru HQ2.out hv3) hv4)
  clear hv3 hv4
  (refine n_step (fun K hK => ?_); go_simp; (try go_bits); refine hK _ _ ?_; clear hK K)
  refine n_step (fun K hK => ?_); go_simp; refine ⟨_, _, ⟨rfl, rfl⟩, rfl, fun v5 hv5 => ?_⟩
  refine (MixBrines_any x y t v5 hr hx hr' hx').mono ?_
  rintro e v6 ⟨yb, rfl, hmb, hv6⟩
  refine ⟨_, rfl, hv6, hK _ _ ?_⟩
  clear hK K
  have HQ6 := Lib.hid (below_thru (below_thru HQ4.out hv5) hv6)
  clear hv5 hv6 HQ2 HQ4
  repeat (refine n_step (fun K hK => ?_); go_simp; (try go_bits); refine hK _ _ ?_; clear hK K)
  refine n_alloc newB ?_
  intro Bb hBb
  refine n_put (cells := arrB yb) (old := arrB B0) (fun w2 _ hΦ => hΦ.2.2) hBb HQ6.out (by rw [arrB_size]; exact sizeB) (by rw [arrB_size, arrB_size]) (arrB_one yb) rfl rfl ?_
  intro w4 w4x hb4 hP4 b4x k4x HC4x
  have HQ4 := Lib.hid (below_thru HQ6.out hb4)
  clear hb4 hP4 HQ6
  repeat (refine n_step (fun K hK => ?_); go_simp; (try go_bits); refine hK _ _ ?_; clear hK K)
  refine n_nil ?_
  rintro w5 hw5 _
  have b5 := b4x.later hw5
  have k5 := grown_trans k4x (grown_below hw5)
  clear b4x k4x hw5 HC4x
  have HD5 := (HD3.out.later HQ4.out).grown k5 (by omega)
  have HB5 := Lib.hid (below_grown (below_on HB3.out HQ4.out) k5 (Nat.le_trans hw3 HQ4.out.size) (by omega))
  have HE := Lib.hid (hmb.trans HMA.out.symm)
  clear k5 HQ4 hmb HA3 HC3
  go_wp2_with (first | ((with_reducible refine wpList_getB b5 ?_ ?_); rfl) | ((with_reducible refine wpList_getB HD5 ?_ ?_); rfl))
  refine (eqBrine_any yb ya w5 HE.out).mono ?_
  rintro e w12 ⟨rfl, hb12⟩
  have HB12 := Lib.hid (HB5.out.trans (hb12.mono HB5.out.size))
  clear hb12 b5 HD5
  go_wp2_with fail
  go_ret
  exact ⟨rfl, HB12.out⟩

end Go.Proofs.Ytfddjbpfahjleaa
