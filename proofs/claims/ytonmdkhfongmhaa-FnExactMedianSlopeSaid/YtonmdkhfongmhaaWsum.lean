/- The sum of drawdowns: both sides. -/
import Derived.Test.YtonmdkhfongmhaaTM1
namespace Go.Proofs.Ytonmdkhfongmhaa
open Go.RowKit

def sumX : List F → F
  | [] => some 0
  | x :: r => r.foldl fadd x
theorem foldl_fb (r : List Nat) : ∀ a : F, r.foldl (fun a y => fadd a (fb y)) a = (r.map fb).foldl fadd a := by
  induction r with
  | nil => intro a; rfl
  | cons x t ih => intro a; exact ih _
theorem sumB_eq (l : List Nat) : sumB l = sumX (l.map fb) := by
  cases l with
  | nil => rfl
  | cons x r => exact foldl_fb r _

def SumRelS (x : Nat) (r : List Nat) (w : World) (v3 v4 : Value) (wr : World) : Prop :=
  ∃ i s : Nat, 1 ≤ i ∧ i ≤ r.length + 1 ∧ v4 = .int .i64 i ∧ v3 = .float .f32 s ∧ Is s ((r.take (i - 1)).foldl (fun a y => fadd a (fb y)) (fb x)) ∧ Below w.heap.size w wr

set_option maxRecDepth 100000 in
set_option maxHeartbeats 800000 in
theorem l03Sum_any (v : Value) (l : List Nat) (w : World) (hlen : l.length ≤ 64) (hv : FListAt w v l) :
    Calls Try.prog 97 #[v] w (RetF (sumB l) w) := by
  obtain ⟨aL, cap, rfl, hcap, hL⟩ := hv
  cases l with
  | nil =>
    clear hL
    go_enter Try.func97, Try.ntmps97
    go_wp2_with fail
    go_ret
    exact ⟨0, rfl, fb0, Below.refl _ _⟩
  | cons x tl =>
    obtain ⟨gq, rfl, hx0⟩ := hL 0 x rfl
    have HL : Hid (∀ (j c : Nat), tl[j]? = some c → w.cell? ⟨gq, j + 1, none⟩ = some (.float .f32 c)) := by
      intro j c hc
      obtain ⟨gq', e, h⟩ := hL (j + 1) c (by simpa using hc)
      cases e
      exact h
    have hlen' : tl.length + 1 ≤ 64 := hlen
    clear hL hlen hcap
    simp only [List.length_cons]
    have hl0 : ((tl.length : Int) + 1 == 0) = false := by rw [beq_eq_false_iff_ne]; omega
    go_enter Try.func97, Try.ntmps97
    go_wp2_with fail
    go_loopw [3, 4] (fun v3 v4 wr => SumRelS x tl w v3 v4 wr) (fun _ v4 _ => tl.length + 1 - (intOf v4).toNat)
    case atStart => exact ⟨1, x, by omega, by omega, rfl, rfl, rfl, Below.refl _ _⟩
    case round =>
      obtain ⟨i, s, hi1, hi2, rfl, rfl, hs, hB⟩ := hrel
      obtain ⟨j, rfl⟩ : ∃ j, i = j + 1 := ⟨i - 1, by omega⟩
      rw [Nat.add_sub_cancel] at hs
      have HS := Lib.hid hs
      have HB := Lib.hid hB
      clear hs hB
      by_cases hlt : j < tl.length
      · obtain ⟨c, hc⟩ : ∃ c, tl[j]? = some c := ⟨_, List.getElem?_eq_getElem hlt⟩
        have hcell := cell_below HB.out (HL.out j c hc)
        have HC := Lib.hid hc
        have j1 : ((j + 1 : Nat) : Int) < (tl.length : Int) + 1 := by omega
        clear hc
        go_wp2_with (first | ((with_reducible refine wpList_gate ?_); refine wpList_arith _ _ rfl rfl rfl ?_; intro r n hr))
        go_roundw
        case rel =>
          refine ⟨j + 2, _, by omega, by omega, by go_num, rfl, ?_, below_drawn HB.out _⟩
          rw [show j + 2 - 1 = j + 1 by omega, take_more' HC.out, List.foldl_append]
          show fb _ = fadd _ _
          rw [hr.out]
          show fadd (fb s) (fb c) = _
          rw [HS.out.out]
        case measure => simp [intOf]; omega
      · have j1 : ¬ ((j + 1 : Nat) : Int) < (tl.length : Int) + 1 := by omega
        rw [List.take_of_length_le (by omega)] at HS
        go_wp2_with fail
        go_ret
        exact ⟨s, rfl, HS.out, HB.out⟩
end Go.Proofs.Ytonmdkhfongmhaa
