/- Brines compared by the reference; numbers that depend on bytes. -/
import Derived.Test.YtfcphfdfpjmgiaaLB2
import Derived.Test.YtfcphfdfpjmgiaaA2S
namespace Go.Proofs.Ytfcphfdfpjmgiaa
open Go.RowKit

set_option maxRecDepth 100000 in
set_option maxHeartbeats 800000 in
theorem a2At_any (v : Value) (n j m : Nat) (w : World) (hm : 1 ≤ m) (hm2 : m ≤ 1000) (hv : BytesAt w v n) :
    Calls Try.prog 27 #[v, .int .i64 j, .int .i64 m] w fun e w' => ∃ z : Nat, e = .returned (.int .i64 z) ∧ z < m ∧ Below w.heap.size w w' := by
  obtain ⟨a, cap, rfl, hL⟩ := hv
  have HL := Lib.hid hL
  clear hL
  by_cases hlt : j < n
  · obtain ⟨g, o, x, rfl, hx, x0, x1⟩ := HL.out j hlt
    have j1 : ¬ (n : Int) ≤ (j : Int) := by omega
    have j2 : (j : Int) < (n : Int) := by omega
    have m1 : ¬ (m : Int) < 1 := by omega
    have m0 : ¬ (m : Int) = 0 := by omega
    obtain ⟨y, rfl⟩ : ∃ y : Nat, x = y := ⟨x.toNat, by omega⟩
    go_enter Try.func27, Try.ntmps27
    go_wp2_with fail
    go_ret
    refine ⟨y % m, ?_, Nat.mod_lt _ (by omega), Below.refl _ _⟩
    exact congrArg (fun z : Int => Ending.returned (.int .i64 z)) (by simp)
  · have j1 : (n : Int) ≤ (j : Int) := by omega
    go_enter Try.func27, Try.ntmps27
    go_wp2_with fail
    go_ret
    exact ⟨0, rfl, by omega, Below.refl _ _⟩

set_option maxRecDepth 100000 in
set_option maxHeartbeats 1600000 in
theorem SameBrine_eq (x y : Br) (w : World) (h : x.n = y.n) : Calls Try.prog 38 #[.agg (arrB x), .agg (arrB y)] w (RetB true w) := by
  have HG : Hid (x.gr.m = y.gr.m) := congrArg N.g h
  have HS : Hid (fm x.s = fm y.s) := congrArg N.s h
  have HP : Hid (fm x.p = fm y.p) := congrArg N.p h
  have HR : Hid (fb x.room = fb y.room) := congrArg N.room h
  clear h
  go_enter Try.func38, Try.ntmps38
  go_wp2_with (with_reducible refine wpList_box rfl ?_)
  intro A wA hA1 hA2 hA3 hA4
  go_wp2_with (with_reducible refine wpList_box rfl ?_)
  intro B wB hB1 hB2 hB3 hB4
  have HA := Lib.hid (BAt.of_blk (hA3.later hB4))
  have HB := Lib.hid (BAt.of_blk hB3)
  have HBel := Lib.hid (below_next hA4 hB4)
  clear hA3 hA4 hB3 hB4
  go_wp2_with fail
  refine (l01SameGround_eq A B x.gr y.gr wB HA.out.g HB.out.g HG.out).mono ?_
  rintro e w1 ⟨rfl, hb⟩
  have HA := Lib.hid (HA.out.below hb)
  have HB := Lib.hid (HB.out.below hb)
  have HBel := Lib.hid (below_next HBel.out hb)
  clear hb
  go_wp2_with fail
  refine (l01SameField_eq A 195 B 195 x.s y.s _ HA.out.fs HB.out.fs HS.out).mono ?_
  rintro e w2 ⟨rfl, hb⟩
  have HA := Lib.hid (HA.out.below hb)
  have HB := Lib.hid (HB.out.below hb)
  have HBel := Lib.hid (below_next HBel.out hb)
  clear hb
  go_wp2_with fail
  refine (l01SameField_eq A 259 B 259 x.p y.p _ HA.out.fp HB.out.fp HP.out).mono ?_
  rintro e w3 ⟨rfl, hb⟩
  have p1 := (HA.out.below hb).room
  have p2 := (HB.out.below hb).room
  have HBel := Lib.hid (below_next HBel.out hb)
  clear hb
  go_wp2_with fail
  refine (l01Same_eq _ _ _ HR.out).mono ?_
  rintro e w4 ⟨rfl, rfl⟩
  go_wp2_with fail
  go_ret
  exact ⟨rfl, HBel.out⟩
end Go.Proofs.Ytfcphfdfpjmgiaa
