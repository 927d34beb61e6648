/- slices.Contains at []int64. -/
import Derived.Test.YtfcphfdfpjmgiaaGreat
import Derived.Test.YtfcphfdfpjmgiaaPath
namespace Go.Proofs.Ytfcphfdfpjmgiaa
open Go.RowKit

def NotRel (l : List Nat) (c : Nat) (w : World) (v : Value) (wr : World) : Prop := ∃ j : Nat, j ≤ l.length ∧ v = .int .i64 j ∧ c ∉ l.take j ∧ Below w.heap.size w wr

set_option maxRecDepth 100000 in
set_option maxHeartbeats 800000 in
theorem Index_any (v : Value) (l : List Nat) (c : Nat) (w : World) (hlen : l.length ≤ 64) (hv : ListAt w v l) :
    Calls Try.prog 197 #[v, .int .i64 c] w fun e w' => ∃ z, e = .returned (.int .i64 z) ∧ (0 ≤ z ↔ c ∈ l) ∧ Below w.heap.size w w' := by
  obtain ⟨aL, cap, rfl, hL⟩ := hv
  have HL := Lib.hid hL
  clear hL
  go_enter Try.func197, Try.ntmps197
  go_wp2_with fail
  go_loopw [8] (fun v8 wr => NotRel l c w v8 wr) (fun v8 _ => l.length - (intOf v8).toNat)
  case atStart => exact ⟨0, by omega, rfl, by simp, Below.refl _ _⟩
  case round =>
    obtain ⟨j, hj, rfl, hno, hB⟩ := hrel
    have HNO := Lib.hid hno
    have HB := Lib.hid hB
    clear hno hB
    by_cases hlt : j < l.length
    · obtain ⟨x, hx⟩ : ∃ x, l[j]? = some x := ⟨_, List.getElem?_eq_getElem hlt⟩
      obtain ⟨gq, rfl, hq3⟩ := HL.out j x hx
      have hcell := cell_below HB.out hq3
      have HX := Lib.hid hx
      have hj64 : j < 64 := by omega
      have j1 : (j : Int) < (l.length : Int) := by omega
      clear hx hq3
      by_cases he : c = x
      · have hxe : ((c : Int) == (x : Int)) = true := by rw [he]; simp
        have HIN : Hid (c ∈ l) := by show _; rw [he]; exact List.mem_of_getElem? HX.out
        clear he
        go_wp2_with fail
        go_ret
        exact ⟨_, rfl, ⟨fun _ => HIN.out, fun _ => by omega⟩, HB.out⟩
      · have hxe : ((c : Int) == (x : Int)) = false := beq_eq_false_iff_ne.2 (by omega)
        have HE := Lib.hid he
        clear he
        go_wp2_with fail
        go_roundw
        case rel =>
          refine ⟨j + 1, by omega, by go_num, ?_, HB.out⟩
          rw [take_more HX.out, List.mem_append]
          rintro (h | h)
          · exact HNO.out h
          · exact HE.out (List.mem_singleton.1 h)
        case measure => simp [intOf]; omega
    · have hjn : j = l.length := by omega
      have j1 : ¬ (j : Int) < (l.length : Int) := by omega
      have HN2 : Hid (c ∉ l) := by
        have := HNO.out
        rw [List.take_of_length_le (Nat.le_of_eq hjn.symm)] at this; exact this
      clear hjn
      go_wp2_with fail
      go_ret
      exact ⟨-1, rfl, ⟨fun h => absurd h (by decide), fun h => absurd h HN2.out⟩, HB.out⟩

set_option maxHeartbeats 400000 in
theorem Contains_any (v : Value) (l : List Nat) (c : Nat) (w : World) (hlen : l.length ≤ 64) (hv : ListAt w v l) :
    Calls Try.prog 189 #[v, .int .i64 c] w (RetB (decide (c ∈ l)) w) := by
  go_enter Try.func189, Try.ntmps189
  go_wp2_with fail
  refine (Index_any v l c w hlen hv).mono ?_
  rintro e w1 ⟨z, rfl, hz, hb1⟩
  have HB := Lib.hid hb1
  have HZ := Lib.hid hz
  clear hb1 hz
  go_wp2_with fail
  go_ret
  exact ⟨ret_bool (decide_eq_decide.2 HZ.out), HB.out⟩
end Go.Proofs.Ytfcphfdfpjmgiaa
