/- Choices out of a source: the walk. -/
import Derived.Test.YtbhnnglpakdigaaSrc
namespace Go.Proofs.Ytbhnnglpakdigaa
open Go.RowKit

theorem grown_below' {B b : Nat} {a w w' : World} (h : Below B a w) (hg : w.grownBy w' (some b)) (hB : B ≤ w.heap.size) (hb : B ≤ b) : Below B a w' := below_grown h hg hB hb

set_option maxRecDepth 100000 in
set_option maxHeartbeats 1600000 in
theorem pick_any (b n k m : Nat) (v : Value) (w : World) (hn : n ≤ 4096) (hk : k ≤ 100000) (hm : 2 ≤ m) (hm2 : m ≤ 65536) (hv : ∀ w', w.grownBy w' (some b) → BytesAt w' v n) (hs : SrcAt w b v k) :
    Calls Try.prog 57 #[.pointer (some ⟨b, 0, none⟩), .int .i64 m] w fun e w' => ∃ z : Nat, e = .returned (.int .i64 z) ∧ z < m ∧ SrcAt w' b v (k + 2) ∧ w.grownBy w' (some b) := by
  have m1 : ¬ (m : Int) ≤ 1 := by omega
  have m0 : ¬ (m : Int) = 0 := by omega
  by_cases h2 : 200 < m
  · have h3 : (200 : Int) < (m : Int) := by omega
    go_enter Try.func57, Try.ntmps57
    go_wp2_with fail
    refine (next_any b n k v w hn (by omega) (hv w (grown_refl _ _)) hs).mono ?_
    rintro e w1 ⟨x, rfl, hx, hs1, hg1⟩
    have HG1 := Lib.hid hg1
    have hx' : (x : Int) ≤ 255 := by omega
    clear hs
    go_wp2_with fail
    refine (next_any b n (k + 1) v w1 hn (by omega) (hv w1 HG1.out) hs1).mono ?_
    rintro e w2 ⟨y, rfl, hy, hs2, hg2⟩
    have HG2 := Lib.hid (grown_trans HG1.out hg2)
    have hy' : (y : Int) ≤ 255 := by omega
    clear hg1 hg2 hs1
    go_wp2_with fail
    go_ret
    refine ⟨(x * 256 + y) % m, ?_, Nat.mod_lt _ (by omega), hs2, HG2.out⟩
    exact congrArg (fun z : Int => Ending.returned (.int .i64 z)) (by simp)
  · have h3 : ¬ (200 : Int) < (m : Int) := by omega
    go_enter Try.func57, Try.ntmps57
    go_wp2_with fail
    refine (next_any b n k v w hn (by omega) (hv w (grown_refl _ _)) hs).mono ?_
    rintro e w1 ⟨x, rfl, hx, hs1, hg1⟩
    have HG1 := Lib.hid hg1
    have hx' : (x : Int) ≤ 255 := by omega
    clear hs hg1
    go_wp2_with fail
    go_ret
    refine ⟨x % m, ?_, Nat.mod_lt _ (by omega), ?_, HG1.out⟩
    · exact congrArg (fun z : Int => Ending.returned (.int .i64 z)) (by simp)
    · obtain ⟨p, sd, hp, hb⟩ := hs1
      exact ⟨p, sd, by omega, hb⟩

theorem BytesAt.slice {w : World} {v : Value} {n : Nat} (h : BytesAt w v n) : ∃ a k cap, v = .slice a k cap := by obtain ⟨a, cap, e, _⟩ := h; exact ⟨a, n, cap, e⟩

set_option maxHeartbeats 400000 in
theorem l00From_any (v : Value) (w : World) (h1 : ∃ a k cap, v = .slice a k cap) : Calls Try.prog 56 #[v] w fun e w' => ∃ b, e = .returned (.pointer (some ⟨b, 0, none⟩)) ∧ w.heap.size ≤ b ∧ SrcAt w' b v 0 ∧ Below w.heap.size w w' := by
  obtain ⟨a, k, cap, rfl⟩ := h1
  go_enter Try.func56, Try.ntmps56
  go_wp2_with (with_reducible refine wpList_box rfl ?_)
  intro b w1 h1 h2 h3 h4
  have HS := Lib.hid h3
  have HB := Lib.hid h4
  clear h3 h4
  go_wp2_with fail
  go_ret
  exact ⟨b, rfl, h1, ⟨0, 0, Nat.le_refl _, HS.out⟩, HB.out⟩
end Go.Proofs.Ytbhnnglpakdigaa
