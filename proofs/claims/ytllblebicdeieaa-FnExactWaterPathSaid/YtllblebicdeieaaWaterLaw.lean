/- The law on the path of the water: its walk. -/
import Derived.Test.YtllblebicdeieaaWater
namespace Go.Proofs.Ytllblebicdeieaa
open Go.RowKit

theorem ListAt.far {w2 w' : World} {v : Value} {l : List Nat} (h : ListAt w2 v l) (hb : Below w2.heap.size w2 w') : ListAt w' v l := by
  obtain ⟨a, cap, e, hL⟩ := h
  refine ⟨a, cap, e, fun j c hc => ?_⟩
  obtain ⟨gq, e2, hq⟩ := hL j c hc
  exact ⟨gq, e2, cell_below hb hq⟩
theorem Counts.far {w2 w' : World} {v : Value} {n : Nat} {q : Int} (h : Counts w2 v n q) (hb : Below w2.heap.size w2 w') : Counts w' v n q := by
  obtain ⟨a, cap, e, hL⟩ := h
  refine ⟨a, cap, e, fun j hj => ?_⟩
  obtain ⟨gq, e2, hq⟩ := hL j hj
  exact ⟨gq, e2, cell_below hb hq⟩

set_option maxRecDepth 100000 in
set_option maxHeartbeats 800000 in
theorem mark_nil (w : World) : Calls Try.prog 24 #[.slice none 0 0, .int .i64 1] w fun e w' => e = .returned (.int .i64 1) ∧ w = w' := by
  go_enter Try.func24, Try.ntmps24
  go_wp2_with fail
  go_loopw [1, 5] (fun v1 v5 wr => v1 = .int .i64 1 ∧ v5 = .int .i64 0 ∧ w = wr) (fun _ _ _ => 0)
  case atStart => exact ⟨rfl, rfl, rfl⟩
  case round =>
    obtain ⟨rfl, rfl, rfl⟩ := hrel
    go_wp2_with fail
    go_ret
    exact ⟨rfl, rfl⟩

theorem mark_owns {w : World} {base : Nat} {v : Value} {l : List Nat} (h : w.ownsRow base 2 1 v l.length (ints l)) (hn : l.length ≤ 64) :
    Calls Try.prog 24 #[v, .int .i64 1] w fun e w' => e = .returned (.int .i64 (1 + (l.length : Int))) ∧ Counts w' v l.length 1 ∧ Below base w w' := by
  obtain ⟨h1, h2 | ⟨g, cap, cur, rfl, hb, hg, hc, hm, hs, _⟩⟩ := h
  · obtain ⟨rfl, h0⟩ := h2
    refine (mark_nil w).mono ?_
    rintro e w' ⟨rfl, rfl⟩
    rw [h0]
    exact ⟨by simp, ⟨none, 0, rfl, fun j hj => absurd hj (by omega)⟩, Below.refl _ _⟩
  · refine (markInt64S_any g cap l.length cur w hn hc (by omega) hg).mono ?_
    rintro e w' ⟨rfl, hc', hgr⟩
    have hlt : g < w.heap.size := (Array.getElem?_eq_some_iff.1 hg).1
    refine ⟨rfl, hc', ?_⟩
    exact ⟨hgr.os, hgr.tape, hgr.output, by have := hgr.size; omega, fun k hk => hgr.block k (by omega) (by simp; omega)⟩

set_option maxRecDepth 100000 in
set_option maxHeartbeats 1600000 in
theorem law_WaterPath (g : G) (z : Int) (w : World) (hr : g.Rng) (hx : g.Fx) :
    Calls Try.prog 5 #[.agg (arrG g), .int .i64 z] w (RetB true w) := by
  have hlen := wayL_len g.m z
  go_enter Try.func5, Try.ntmps5
  go_wp2_with (with_reducible refine wpList_box rfl ?_)
  intro A wA hA1 hA2 hA3 hA4
  go_wp2_with ((with_reducible refine wpList_getL hA3 ?_ ?_); rfl)
  refine (toGround_any g wA).mono ?_
  rintro e w1 ⟨rfl, hb1⟩
  go_wp2_with fail
  refine (specWaterPath_any g z w1 hr hx).mono ?_
  rintro e w2 ⟨v0, rfl, ho0, hb2⟩
  have HA2 := (hA3.later hb1).later hb2
  have HB2 := Lib.hid ((hA4.trans (hb1.mono hA4.size)).trans (hb2.mono (Nat.le_trans hA4.size hb1.size)))
  have HL0 := Lib.hid (listAt64 ho0)
  have hA2lt : A < w2.heap.size := HA2.lt
  clear hA3 hA4 hb1 hb2 ho0
  obtain ⟨c, hc⟩ : ∃ c, askC g.m z = c := ⟨_, rfl⟩
  have HC := Lib.hid hc
  rw [hc]
  clear hc
  go_wp2_with ((with_reducible refine wpList_getL HA2 ?_ ?_); rfl)
  refine (toGround_any g w2).mono ?_
  rintro e w5 ⟨rfl, hb5⟩
  go_wp2_with fail
  refine (WaterPath_any g z w5 hr hx).mono ?_
  rw [HC.out]
  rintro e w6 ⟨v1, rfl, ho1, hb6⟩
  have HF6 := Lib.hid (hb5.trans (hb6.mono hb5.size))
  have HO1 := Lib.hid ho1
  have hs5 := hb5.size
  have hs6 := hb6.size
  have HA6 := Lib.hid (HA2.later HF6.out)
  clear hb5 hb6 ho1 HA2
  go_wp2_with fail
  refine (eqInt64S_any v1 v0 _ w6 hlen (listAt64 HO1.out) (HL0.out.far HF6.out)).mono ?_
  rintro e w7 ⟨rfl, hb7⟩
  have HF7 := Lib.hid (HF6.out.trans (hb7.mono HF6.out.size))
  have HO7 := Lib.hid (owns_below HO1.out hb7)
  have HA7 := Lib.hid (HA6.out.later hb7)
  clear hb7
  go_wp2_with fail
  refine (mark_owns HO7.out hlen).mono ?_
  rintro e w8 ⟨rfl, hc8, hb8⟩
  have HF8 := Lib.hid (HF7.out.trans (hb8.mono hs5))
  have HA8 := Lib.hid (HA7.out.below hb8 (by omega))
  have HC8 := Lib.hid hc8
  clear hb8 hc8
  go_wp2_with fail
  refine (heldInt64S_any v1 _ w8 hlen HC8.out).mono ?_
  rintro e w9 ⟨rfl, hb9⟩
  have HF9 := Lib.hid (HF8.out.trans (hb9.mono HF8.out.size))
  have HA9 := HA8.out.later hb9
  have HC9 := Lib.hid (HC8.out.far hb9)
  have n0 : ¬ (1 + ((wayL g.m z).length : Int) < 0) := by omega
  clear hb9
  go_wp2_with ((with_reducible refine wpList_getL HA9 ?_ ?_); rfl)
  refine (toGround_any g w9).mono ?_
  rintro e w10 ⟨rfl, hb10⟩
  go_wp2_with fail
  refine (WaterPath_any g z w10 hr hx).mono ?_
  rw [HC.out]
  rintro e w11 ⟨v2, rfl, ho2, hb11⟩
  have hb11' := hb10.trans (hb11.mono hb10.size)
  have HF11 := Lib.hid (HF9.out.trans (hb11'.mono HF9.out.size))
  have HC11 := Lib.hid (HC9.out.far hb11')
  have HO2 := Lib.hid ho2
  clear hb10 hb11 hb11' ho2 HA9
  go_wp2_with fail
  refine (eqInt64S_any v2 v0 _ w11 hlen (listAt64 HO2.out) (HL0.out.far HF11.out)).mono ?_
  rintro e w12 ⟨rfl, hb12⟩
  have HF12 := Lib.hid (HF11.out.trans (hb12.mono HF11.out.size))
  have HC12 := Lib.hid (HC11.out.far hb12)
  clear hb12
  go_wp2_with fail
  refine (heldInt64S_any v1 _ w12 hlen HC12.out).mono ?_
  rintro e w13 ⟨rfl, hb13⟩
  have HF13 := Lib.hid (HF12.out.trans (hb13.mono HF12.out.size))
  clear hb13
  go_wp2_with fail
  go_ret
  exact ⟨rfl, HB2.out.trans (HF13.out.mono HB2.out.size)⟩
end Go.Proofs.Ytllblebicdeieaa
