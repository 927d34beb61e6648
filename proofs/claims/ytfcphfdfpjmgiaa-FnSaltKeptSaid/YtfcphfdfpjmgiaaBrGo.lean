/- What goes out of a cell and comes in, told with codes: both sides. -/
import Derived.Test.YtfcphfdfpjmgiaaBrAsk
import Derived.Test.YtfcphfdfpjmgiaaTold
namespace Go.Proofs.Ytfcphfdfpjmgiaa
open Go.RowKit

/-- A number told with a code. -/
def toldR (x : F) : F × Int := (if fin x then x else some 0, if fin x then 0 else 4)
def goesR (n : N) (z : Int) : F × Int := if askB n z = 0 then toldR (outF n.g z.toNat) else (some 0, askB n z)
def comesR (n : N) (z : Int) : F × Int := if askB n z = 0 then toldR (inF n z.toNat) else (some 0, askB n z)

set_option maxRecDepth 100000 in
set_option maxHeartbeats 1600000 in
theorem GoesOut_any (x : Br) (z : Int) (w : World) (hr : x.gr.Rng) (hx : x.gr.Fx) :
    Calls Try.prog 44 #[.agg (arrB x), .int .i64 z] w (RetFI (goesR x.n z).1 (goesR x.n z).2 w) := by
  by_cases h0 : askB x.n z = 0
  · obtain ⟨hok, k, rfl, hk, hh⟩ := askB_zero h0
    have hs := sane_of (okB_g hok) hx
    have HW : Hid (goesR x.n k = toldR (outF x.n.g k)) := by show (if _ then _ else _) = _; rw [if_pos h0]; rfl
    have H0 := Lib.hid h0
    clear hok hh h0
    go_enter Try.func44, Try.ntmps44
    go_wp2_with (with_reducible refine wpList_box rfl ?_)
    intro b w1 hB1 hB2 hB3 hB4
    go_wp2_with fail
    refine (brineFault_any b _ k x w1 hr hx hB3).mono ?_
    rw [H0.out]
    rintro e w2 ⟨rfl, hb2⟩
    have HX2 := Lib.hid ((BAt.of_blk hB3).below hb2)
    have HB2 := Lib.hid (hB4.trans (hb2.mono hB4.size))
    clear hB3 hB4 hb2
    go_wp2_with fail
    refine (outB_any b k x w2 hk hs HX2.out).mono ?_
    rintro e w3 ⟨r, rfl, hr3, hb3⟩
    have HB3 := Lib.hid (HB2.out.trans (hb3.mono HB2.out.size))
    have HR : Hid (Is r (outF x.n.g k)) := hr3
    clear hb3 hr3
    go_wp2_with fail
    obtain ⟨zc, hzc⟩ : ∃ zc : Int, (if fin (outF x.n.g k) then (0 : Int) else 4) = zc := ⟨_, rfl⟩
    have HZ := Lib.hid hzc
    refine (told_any r _ w3 HR.out).mono ?_
    rw [hzc]
    clear hzc
    rintro e w4 ⟨r4, rfl, hr4, hb4⟩
    have HB4 := Lib.hid (HB3.out.trans (hb4.mono HB3.out.size))
    clear hb4
    go_wp2_with fail
    go_ret2
    exact ⟨r4, by rw [HW.out]; show _ = Ending.returned (.tuple #[_, .int _ (if fin (outF x.n.g k) then (0 : Int) else 4)]); rw [HZ.out]; rfl, by rw [HW.out]; exact hr4, HB4.out⟩
  · have HW : Hid (goesR x.n z = (some 0, askB x.n z)) := by show (if _ then _ else _) = _; rw [if_neg h0]
    obtain ⟨c, hc⟩ : ∃ c, askB x.n z = c := ⟨_, rfl⟩
    have hc0 : ¬ c = 0 := by rw [← hc]; exact h0
    have HC := Lib.hid hc
    clear hc h0
    go_enter Try.func44, Try.ntmps44
    go_wp2_with (with_reducible refine wpList_box rfl ?_)
    intro b w1 hB1 hB2 hB3 hB4
    go_wp2_with fail
    refine (brineFault_any b _ z x w1 hr hx hB3).mono ?_
    rw [HC.out]
    rintro e w2 ⟨rfl, hb2⟩
    have HX2 := Lib.hid ((BAt.of_blk hB3).below hb2)
    have HB2 := Lib.hid (hB4.trans (hb2.mono hB4.size))
    clear hB3 hB4 hb2
    go_wp2_with fail
    go_ret2
    exact ⟨0, by rw [HW.out, HC.out]; rfl, by rw [HW.out]; exact fb0, HB2.out⟩

set_option maxRecDepth 100000 in
set_option maxHeartbeats 1600000 in
theorem ComesIn_any (x : Br) (z : Int) (w : World) (hr : x.gr.Rng) (hx : x.gr.Fx) :
    Calls Try.prog 43 #[.agg (arrB x), .int .i64 z] w (RetFI (comesR x.n z).1 (comesR x.n z).2 w) := by
  by_cases h0 : askB x.n z = 0
  · obtain ⟨hok, k, rfl, hk, hh⟩ := askB_zero h0
    have hs := sane_of (okB_g hok) hx
    have HW : Hid (comesR x.n k = toldR (inF x.n k)) := by show (if _ then _ else _) = _; rw [if_pos h0]; rfl
    have H0 := Lib.hid h0
    clear hok hh h0
    go_enter Try.func43, Try.ntmps43
    go_wp2_with (with_reducible refine wpList_box rfl ?_)
    intro b w1 hB1 hB2 hB3 hB4
    go_wp2_with fail
    refine (brineFault_any b _ k x w1 hr hx hB3).mono ?_
    rw [H0.out]
    rintro e w2 ⟨rfl, hb2⟩
    have HX2 := Lib.hid ((BAt.of_blk hB3).below hb2)
    have HB2 := Lib.hid (hB4.trans (hb2.mono hB4.size))
    clear hB3 hB4 hb2
    go_wp2_with fail
    refine (inB_any b k x w2 hk hs HX2.out).mono ?_
    rintro e w3 ⟨r, rfl, hr3, hb3⟩
    have HB3 := Lib.hid (HB2.out.trans (hb3.mono HB2.out.size))
    have HR : Hid (Is r (inF x.n k)) := hr3
    clear hb3 hr3
    go_wp2_with fail
    obtain ⟨zc, hzc⟩ : ∃ zc : Int, (if fin (inF x.n k) then (0 : Int) else 4) = zc := ⟨_, rfl⟩
    have HZ := Lib.hid hzc
    refine (told_any r _ w3 HR.out).mono ?_
    rw [hzc]
    clear hzc
    rintro e w4 ⟨r4, rfl, hr4, hb4⟩
    have HB4 := Lib.hid (HB3.out.trans (hb4.mono HB3.out.size))
    clear hb4
    go_wp2_with fail
    go_ret2
    exact ⟨r4, by rw [HW.out]; show _ = Ending.returned (.tuple #[_, .int _ (if fin (inF x.n k) then (0 : Int) else 4)]); rw [HZ.out]; rfl, by rw [HW.out]; exact hr4, HB4.out⟩
  · have HW : Hid (comesR x.n z = (some 0, askB x.n z)) := by show (if _ then _ else _) = _; rw [if_neg h0]
    obtain ⟨c, hc⟩ : ∃ c, askB x.n z = c := ⟨_, rfl⟩
    have hc0 : ¬ c = 0 := by rw [← hc]; exact h0
    have HC := Lib.hid hc
    clear hc h0
    go_enter Try.func43, Try.ntmps43
    go_wp2_with (with_reducible refine wpList_box rfl ?_)
    intro b w1 hB1 hB2 hB3 hB4
    go_wp2_with fail
    refine (brineFault_any b _ z x w1 hr hx hB3).mono ?_
    rw [HC.out]
    rintro e w2 ⟨rfl, hb2⟩
    have HX2 := Lib.hid ((BAt.of_blk hB3).below hb2)
    have HB2 := Lib.hid (hB4.trans (hb2.mono hB4.size))
    clear hB3 hB4 hb2
    go_wp2_with fail
    go_ret2
    exact ⟨0, by rw [HW.out, HC.out]; rfl, by rw [HW.out]; exact fb0, HB2.out⟩

set_option maxRecDepth 100000 in
set_option maxHeartbeats 1600000 in
theorem specGoesOut_any (x : Br) (z : Int) (w : World) (hr : x.gr.Rng) (hx : x.gr.Fx) :
    Calls Try.prog 46 #[.agg (arrB x), .int .i64 z] w (RetFI (goesR x.n z).1 (goesR x.n z).2 w) := by
  by_cases h0 : askB x.n z = 0
  · obtain ⟨hok, k, rfl, hk, hh⟩ := askB_zero h0
    have hs := sane_of (okB_g hok) hx
    have HW : Hid (goesR x.n k = toldR (outF x.n.g k)) := by show (if _ then _ else _) = _; rw [if_pos h0]; rfl
    have H0 := Lib.hid h0
    clear hok hh h0
    go_enter Try.func46, Try.ntmps46
    go_wp2_with (with_reducible refine wpList_box rfl ?_)
    intro b w1 hB1 hB2 hB3 hB4
    go_wp2_with fail
    refine (l05Asked_any b _ k x w1 hr hx hB3).mono ?_
    rw [H0.out]
    rintro e w2 ⟨rfl, hb2⟩
    have HX2 := Lib.hid ((BAt.of_blk hB3).below hb2)
    have HB2 := Lib.hid (hB4.trans (hb2.mono hB4.size))
    clear hB3 hB4 hb2
    go_wp2_with fail
    refine (l05Out_any b k x w2 hk hs HX2.out).mono ?_
    rintro e w3 ⟨r, rfl, hr3, hb3⟩
    have HB3 := Lib.hid (HB2.out.trans (hb3.mono HB2.out.size))
    have HR : Hid (Is r (outF x.n.g k)) := hr3
    clear hb3 hr3
    cases hf : fin (outF x.n.g k)
    · have HF := Lib.hid hf
      clear hf
      go_wp2_with fail
      refine (l01Finite_any r _ w3 HR.out).mono ?_
      rw [HF.out]
      rintro e w4 ⟨rfl, hb4⟩
      have HB4 := Lib.hid (HB3.out.trans (hb4.mono HB3.out.size))
      clear hb4
      go_wp2_with fail
      go_ret2
      exact ⟨0, by rw [HW.out]; show _ = Ending.returned (.tuple #[_, .int _ (if fin (outF x.n.g k) then (0 : Int) else 4)]); rw [HF.out]; rfl, by rw [HW.out]; show Is 0 (if fin (outF x.n.g k) then _ else _); rw [HF.out]; exact fb0, HB4.out⟩
    · have HF := Lib.hid hf
      clear hf
      go_wp2_with fail
      refine (l01Finite_any r _ w3 HR.out).mono ?_
      rw [HF.out]
      rintro e w4 ⟨rfl, hb4⟩
      have HB4 := Lib.hid (HB3.out.trans (hb4.mono HB3.out.size))
      clear hb4
      go_wp2_with fail
      go_ret2
      exact ⟨r, by rw [HW.out]; show _ = Ending.returned (.tuple #[_, .int _ (if fin (outF x.n.g k) then (0 : Int) else 4)]); rw [HF.out]; rfl, by rw [HW.out]; show Is r (if fin (outF x.n.g k) then _ else _); rw [HF.out]; exact HR.out, HB4.out⟩
  · have HW : Hid (goesR x.n z = (some 0, askB x.n z)) := by show (if _ then _ else _) = _; rw [if_neg h0]
    obtain ⟨c, hc⟩ : ∃ c, askB x.n z = c := ⟨_, rfl⟩
    have hc0 : ¬ c = 0 := by rw [← hc]; exact h0
    have HC := Lib.hid hc
    clear hc h0
    go_enter Try.func46, Try.ntmps46
    go_wp2_with (with_reducible refine wpList_box rfl ?_)
    intro b w1 hB1 hB2 hB3 hB4
    go_wp2_with fail
    refine (l05Asked_any b _ z x w1 hr hx hB3).mono ?_
    rw [HC.out]
    rintro e w2 ⟨rfl, hb2⟩
    have HX2 := Lib.hid ((BAt.of_blk hB3).below hb2)
    have HB2 := Lib.hid (hB4.trans (hb2.mono hB4.size))
    clear hB3 hB4 hb2
    go_wp2_with fail
    go_ret2
    exact ⟨0, by rw [HW.out, HC.out]; rfl, by rw [HW.out]; exact fb0, HB2.out⟩

set_option maxRecDepth 100000 in
set_option maxHeartbeats 1600000 in
theorem specComesIn_any (x : Br) (z : Int) (w : World) (hr : x.gr.Rng) (hx : x.gr.Fx) :
    Calls Try.prog 45 #[.agg (arrB x), .int .i64 z] w (RetFI (comesR x.n z).1 (comesR x.n z).2 w) := by
  by_cases h0 : askB x.n z = 0
  · obtain ⟨hok, k, rfl, hk, hh⟩ := askB_zero h0
    have hs := sane_of (okB_g hok) hx
    have HW : Hid (comesR x.n k = toldR (inF x.n k)) := by show (if _ then _ else _) = _; rw [if_pos h0]; rfl
    have H0 := Lib.hid h0
    clear hok hh h0
    go_enter Try.func45, Try.ntmps45
    go_wp2_with (with_reducible refine wpList_box rfl ?_)
    intro b w1 hB1 hB2 hB3 hB4
    go_wp2_with fail
    refine (l05Asked_any b _ k x w1 hr hx hB3).mono ?_
    rw [H0.out]
    rintro e w2 ⟨rfl, hb2⟩
    have HX2 := Lib.hid ((BAt.of_blk hB3).below hb2)
    have HB2 := Lib.hid (hB4.trans (hb2.mono hB4.size))
    clear hB3 hB4 hb2
    go_wp2_with fail
    refine (l05In_any b k x w2 hk hs HX2.out).mono ?_
    rintro e w3 ⟨r, rfl, hr3, hb3⟩
    have HB3 := Lib.hid (HB2.out.trans (hb3.mono HB2.out.size))
    have HR : Hid (Is r (inF x.n k)) := hr3
    clear hb3 hr3
    cases hf : fin (inF x.n k)
    · have HF := Lib.hid hf
      clear hf
      go_wp2_with fail
      refine (l01Finite_any r _ w3 HR.out).mono ?_
      rw [HF.out]
      rintro e w4 ⟨rfl, hb4⟩
      have HB4 := Lib.hid (HB3.out.trans (hb4.mono HB3.out.size))
      clear hb4
      go_wp2_with fail
      go_ret2
      exact ⟨0, by rw [HW.out]; show _ = Ending.returned (.tuple #[_, .int _ (if fin (inF x.n k) then (0 : Int) else 4)]); rw [HF.out]; rfl, by rw [HW.out]; show Is 0 (if fin (inF x.n k) then _ else _); rw [HF.out]; exact fb0, HB4.out⟩
    · have HF := Lib.hid hf
      clear hf
      go_wp2_with fail
      refine (l01Finite_any r _ w3 HR.out).mono ?_
      rw [HF.out]
      rintro e w4 ⟨rfl, hb4⟩
      have HB4 := Lib.hid (HB3.out.trans (hb4.mono HB3.out.size))
      clear hb4
      go_wp2_with fail
      go_ret2
      exact ⟨r, by rw [HW.out]; show _ = Ending.returned (.tuple #[_, .int _ (if fin (inF x.n k) then (0 : Int) else 4)]); rw [HF.out]; rfl, by rw [HW.out]; show Is r (if fin (inF x.n k) then _ else _); rw [HF.out]; exact HR.out, HB4.out⟩
  · have HW : Hid (comesR x.n z = (some 0, askB x.n z)) := by show (if _ then _ else _) = _; rw [if_neg h0]
    obtain ⟨c, hc⟩ : ∃ c, askB x.n z = c := ⟨_, rfl⟩
    have hc0 : ¬ c = 0 := by rw [← hc]; exact h0
    have HC := Lib.hid hc
    clear hc h0
    go_enter Try.func45, Try.ntmps45
    go_wp2_with (with_reducible refine wpList_box rfl ?_)
    intro b w1 hB1 hB2 hB3 hB4
    go_wp2_with fail
    refine (l05Asked_any b _ z x w1 hr hx hB3).mono ?_
    rw [HC.out]
    rintro e w2 ⟨rfl, hb2⟩
    have HX2 := Lib.hid ((BAt.of_blk hB3).below hb2)
    have HB2 := Lib.hid (hB4.trans (hb2.mono hB4.size))
    clear hB3 hB4 hb2
    go_wp2_with fail
    go_ret2
    exact ⟨0, by rw [HW.out, HC.out]; rfl, by rw [HW.out]; exact fb0, HB2.out⟩

end Go.Proofs.Ytfcphfdfpjmgiaa
