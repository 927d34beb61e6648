/- The laws' comparison of grounds, and of a ground, a float and a code. -/
import Derived.Test.YtfcphfdfpjmgiaaStepS
import Derived.Test.YtfcphfdfpjmgiaaOpen
namespace Go.Proofs.Ytfcphfdfpjmgiaa
open Go.RowKit


theorem G.Fit.fx {g : G} (h : g.Fit) : g.Fx := by
  have := h.ff
  simp [Lit.wf, IntKind.min, IntKind.max, IntKind.signed, IntKind.bits] at this
  exact ⟨by omega, by omega⟩

set_option maxRecDepth 100000 in
set_option maxHeartbeats 800000 in
theorem eqGround_any (g g' : G) (w : World) (h : g.m = g'.m) :
    Calls Try.prog 88 #[.agg (arrG g), .agg (arrG g')] w (RetB true w) := by
  have h1 : g.wide = g'.wide := congrArg M.wide h
  have h2 : g.high = g'.high := congrArg M.high h
  have h3 : Hid (fm g.c = fm g'.c) := congrArg M.c h
  have h4 : Hid (fm g.g = fm g'.g) := congrArg M.g h
  have h5 : Hid (fm g.h = fm g'.h) := congrArg M.h h
  have h6 : g.fixed = g'.fixed := congrArg M.fixed h
  clear h
  go_enter Try.func88, Try.ntmps88
  go_wp2_with (with_reducible refine wpList_box rfl ?_)
  intro A wA hA1 hA2 hA3 hA4
  go_wp2_with (with_reducible refine wpList_box rfl ?_)
  intro B wB hB1 hB2 hB3 hB4
  have GA := GAt.of_blk (hA3.later hB4)
  have GB := GAt.of_blk hB3
  have HB := hA4.trans (hB4.mono hA4.size)
  clear hA3 hA4 hB3 hB4
  have a0 := GA.wide
  have b0 := GB.wide
  have a1 := GA.high
  have b1 := GB.high
  rw [h1] at a0
  rw [h2] at a1
  clear h1 h2
  go_wp2_with (first | ((with_reducible refine wpList_getFAt (T := 27) (b := A) (o := 2) (f := g.c) Try.underlying27 ?_ sizeF (show FAt wB A 2 g.c from GA.fc) ?_ ?_); rfl; rfl) | ((with_reducible refine wpList_getFAt (T := 27) (b := B) (o := 2) (f := g'.c) Try.underlying27 ?_ sizeF (show FAt wB B 2 g'.c from GB.fc) ?_ ?_); rfl; rfl))
  refine (eqField_any _ _ wB h3.out).mono ?_
  rintro e w1 ⟨rfl, hb1⟩
  have GA1 := GA.below hb1
  have GB1 := GB.below hb1
  have HB1 := HB.trans (hb1.mono HB.size)
  clear hb1 a0 a1 b0 b1 HB GA GB
  go_wp2_with (first | ((with_reducible refine wpList_getFAt (T := 27) (b := A) (o := 66) (f := g.g) Try.underlying27 ?_ sizeF (show FAt w1 A 66 g.g from GA1.fg) ?_ ?_); rfl; rfl) | ((with_reducible refine wpList_getFAt (T := 27) (b := B) (o := 66) (f := g'.g) Try.underlying27 ?_ sizeF (show FAt w1 B 66 g'.g from GB1.fg) ?_ ?_); rfl; rfl))
  refine (eqField_any _ _ w1 h4.out).mono ?_
  rintro e w2 ⟨rfl, hb2⟩
  have GA2 := GA1.below hb2
  have GB2 := GB1.below hb2
  have HB2 := HB1.trans (hb2.mono HB1.size)
  clear hb2 GA1 GB1 HB1
  go_wp2_with (first | ((with_reducible refine wpList_getFAt (T := 27) (b := A) (o := 130) (f := g.h) Try.underlying27 ?_ sizeF (show FAt w2 A 130 g.h from GA2.fh) ?_ ?_); rfl; rfl) | ((with_reducible refine wpList_getFAt (T := 27) (b := B) (o := 130) (f := g'.h) Try.underlying27 ?_ sizeF (show FAt w2 B 130 g'.h from GB2.fh) ?_ ?_); rfl; rfl))
  refine (eqField_any _ _ w2 h5.out).mono ?_
  rintro e w3 ⟨rfl, hb3⟩
  have a3 := (GA2.below hb3).fixed
  have b3 := (GB2.below hb3).fixed
  have HB3 := Lib.hid (HB2.trans (hb3.mono HB2.size))
  rw [h6] at a3
  clear hb3 GA2 GB2 HB2 h6
  go_wp2_with fail
  go_ret
  exact ⟨rfl, HB3.out⟩

end Go.Proofs.Ytfcphfdfpjmgiaa
