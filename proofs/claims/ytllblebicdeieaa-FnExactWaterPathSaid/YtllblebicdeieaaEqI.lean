/- The laws' comparison of lists of whole numbers: equal ones are told as equal. -/
import Derived.Test.YtllblebicdeieaaWalkI
namespace Go.Proofs.Ytllblebicdeieaa
open Go.RowKit

set_option maxRecDepth 100000 in
set_option maxHeartbeats 800000 in
theorem eqInt64S_any (v v' : Value) (l : List Nat) (w : World) (hlen : l.length ≤ 64) (hv : ListAt w v l) (hv' : ListAt w v' l) :
    Calls Try.prog 23 #[v, v'] w (RetB true w) := by
  obtain ⟨aL, cap, rfl, hL⟩ := hv
  obtain ⟨aL', cap', rfl, hL'⟩ := hv'
  have HL := Lib.hid hL
  have HL' := Lib.hid hL'
  clear hL hL'
  go_enter Try.func23, Try.ntmps23
  go_wp2_with fail
  go_loopw [5] (fun v5 wr => CntRel l.length w v5 wr) (fun v5 _ => l.length - (intOf v5).toNat)
  case atStart => exact ⟨0, by omega, rfl, Below.refl _ _⟩
  case round =>
    obtain ⟨j, hj, rfl, hB⟩ := hrel
    have HB := Lib.hid hB
    clear hB
    by_cases hlt : j < l.length
    · obtain ⟨c, hc⟩ : ∃ c, l[j]? = some c := ⟨_, List.getElem?_eq_getElem hlt⟩
      obtain ⟨gq, rfl, hq⟩ := HL.out j c hc
      obtain ⟨gq', rfl, hq'⟩ := HL'.out j c hc
      have h1 := cell_below HB.out hq
      have h2 := cell_below HB.out hq'
      have j1 : (j : Int) < (l.length : Int) := by omega
      have hj64 : j < 64 := by omega
      clear hq hq' hc
      go_wp2_with fail
      go_quiet (fail)
      go_wp2_with fail
      go_roundw
      case rel => exact ⟨j + 1, by omega, by go_num, below_drawn HB.out _⟩
      case measure => simp [intOf]; omega
    · have j1 : ¬ (j : Int) < (l.length : Int) := by omega
      go_wp2_with fail
      go_ret
      exact ⟨rfl, HB.out⟩
end Go.Proofs.Ytllblebicdeieaa
