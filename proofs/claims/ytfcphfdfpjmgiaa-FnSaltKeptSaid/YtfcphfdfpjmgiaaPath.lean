/- All flows of a valid ground are finite: the walk. -/
import Derived.Test.YtfcphfdfpjmgiaaLM1
namespace Go.Proofs.Ytfcphfdfpjmgiaa
open Go.RowKit

def CntRel (n : Nat) (w : World) (v : Value) (wr : World) : Prop := ∃ j : Nat, j ≤ n ∧ v = .int .i64 j ∧ Below w.heap.size w wr

set_option maxRecDepth 100000 in
set_option maxHeartbeats 800000 in
theorem flowsOk_any (b o : Nat) (g : G) (w : World) (hs : g.Sane) (hok : okI g.m = true) (hg : GAt w b o g) :
    Calls Try.prog 126 #[.pointer (some ⟨b, o, none⟩)] w (RetB true w) := by
  have hr := hs.rng
  have HOK := Lib.hid hok
  clear hok
  go_enter Try.func126, Try.ntmps126
  go_wp2_with fail
  refine (cells_any b o g w hr hg).mono ?_
  rintro e w1 ⟨v, rfl, hown, hb1⟩
  obtain ⟨aL, cap, rfl, hL⟩ := list_form hown
  have HL := Lib.hid hL
  have HG1 := Lib.hid (hg.below hb1)
  have HB1 := Lib.hid hb1
  clear hL hown hg hb1
  go_wp2_with fail
  go_loopw [9] (fun v9 wr => CntRel (cellsM g.m).length w1 v9 wr) (fun v9 _ => (cellsM g.m).length - (intOf v9).toNat)
  case atStart => exact ⟨0, by omega, rfl, Below.refl _ _⟩
  case round =>
    obtain ⟨j, hj, rfl, hB⟩ := hrel
    have HB := Lib.hid hB
    have HG := Lib.hid (HG1.out.below hB)
    clear hB
    by_cases hlt : j < (cellsM g.m).length
    · obtain ⟨c, hc⟩ : ∃ c, (cellsM g.m)[j]? = some c := ⟨_, List.getElem?_eq_getElem hlt⟩
      have hmem := List.mem_of_getElem? hc
      have hc64 : c < 64 := cellsTo_lt hmem
      have HH : Hid (hasB g.wide g.high c = true) := by
        show _ = _
        unfold cellsM cellsTo at hmem
        exact (List.mem_filter.1 hmem).2
      have hj64 : j < 64 := Nat.lt_of_lt_of_le hlt (cellsTo_length _ _ _)
      obtain ⟨gq, rfl, hq1, hq2, hq3⟩ := HL.out j c hc
      have hcell := cell_below HB.out hq3
      have hlt' : (j : Int) < ((cellsTo g.wide g.high 64).length : Int) := by have : j < (cellsTo g.wide g.high 64).length := hlt; omega
      clear hq3 hc hmem
      go_wp2_with fail
      go_loopw [13] (fun v13 wr2 => CntRel 4 wr v13 wr2) (fun v13 _ => 4 - (intOf v13).toNat)
      case atStart => exact ⟨0, by omega, rfl, Below.refl _ _⟩
      case round =>
        obtain ⟨s, hs4, rfl, hB2⟩ := hrel
        have HB2 := Lib.hid hB2
        have HG2 := Lib.hid (HG.out.below hB2)
        clear hB2
        by_cases hlt2 : s < 4
        · go_wp2_with fail
          refine (flow_any b o c s g _ hc64 hlt2 hr hs.hW hs.hH HG2.out).mono ?_
          rintro e w3 ⟨r, rfl, hr3, hb3⟩
          have HB3 := Lib.hid (HB2.out.trans (hb3.mono HB2.out.size))
          have HF : Hid (fin (flow g.m c s) = true) := flow_fin HOK.out hc64 HH.out
          clear hb3
          go_wp2_with fail
          refine (finite_any r _ w3 hr3).mono ?_
          rw [HF.out]
          rintro e w4 ⟨rfl, hb4⟩
          have HB4 := Lib.hid (HB3.out.trans (hb4.mono HB3.out.size))
          clear hb4
          go_wp2_with fail
          go_roundw
          case rel => exact ⟨s + 1, by omega, by go_num, HB4.out⟩
          case measure => simp [intOf]; omega
        · go_wp2_with fail
          go_roundw
          case rel => exact ⟨j + 1, by omega, by go_num, HB.out.trans (HB2.out.mono HB.out.size)⟩
          case measure => simp [intOf]; omega
    · have hlt' : ¬ (j : Int) < ((cellsTo g.wide g.high 64).length : Int) := by have : ¬ j < (cellsTo g.wide g.high 64).length := hlt; omega
      go_wp2_with fail
      go_ret
      exact ⟨rfl, HB1.out.trans (HB.out.mono HB1.out.size)⟩
end Go.Proofs.Ytfcphfdfpjmgiaa
