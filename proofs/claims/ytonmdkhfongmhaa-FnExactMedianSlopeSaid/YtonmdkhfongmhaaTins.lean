/- The library's insertion sort at small numbers. -/
import Derived.Test.YtonmdkhfongmhaaTM1
import Derived.Lib.BitFns
import Derived.Sort.WalkA
import Derived.Sort.WalkC
import Derived.Sort.LotA
import Derived.Deep.LoopGhost
import Derived.Deep.QuietTactic
import Derived.BigQuiet
import Derived.BigRegion
import Derived.Shelf.RegionOpenPlain
namespace Go.Proofs.Ytonmdkhfongmhaa
open Go.RowKit Go.Lib Go.Sort

def ltI (x y : Int) : Bool := decide (x < y)
theorem Less_any (x y : Int) (w : World) : Calls Try.prog 134 #[.int .i16 x, .int .i16 y] w fun e w' => e = .returned (.bool (ltI x y)) ∧ w' = w := by
  go_enter Try.func134, Try.ntmps134
  go_wp2
  all_goals
    go_ret
    refine ⟨ret_bool ?_, rfl⟩
    simp [ltI]

set_option maxHeartbeats 4000000 in
set_option maxRecDepth 1000000 in
theorem insOrd_any (blk off cap a b : Nat) (d : Array Int) (w : World) (hH : Holds (Value.int .i16) w blk off d) (hab : a ≤ b) (hb : b ≤ d.size) (hsz : d.size < 4611686018427387904) :
    Calls Try.prog 128 #[.slice (some ⟨blk, off, none⟩) d.size cap, .int .i64 a, .int .i64 b] w fun e w' =>
      e = .returned (.tuple #[]) ∧ ∃ n, w' = (putRow (Value.int .i16) w blk off (Sort.insertionSort ltI d a b)).drewN n := by
  have mixed : Try.prog.follows .mixedOrders = true := by kernel_rfl
  have hst : ∀ (x : Int) (a : Addr) (m : Mode) (w : World), Sem.run Try.prog (store a ((Value.int .i16) x) m) w = stored Try.prog w a ((Value.int .i16) x) m := fun x a m w => run_store Try.prog w a _ m rfl
  have HST : Hid (w = (putRow (Value.int .i16) w blk off d).drewN 0) := (putRow_self (Value.int .i16) w blk off d hH).symm
  have HH : Hid (Holds (Value.int .i16) w blk off d) := hH
  have HP : True := trivial
  clear hH
  go_enter Try.func128, Try.ntmps128
  go_wp2_with fail
  go_loopg [6] (b - a) (fun g1 vi wr => ∃ (i n : Nat) (dk : Array Int), vi = .int .i64 i ∧ a < i ∧ i ≤ b + 1 ∧ b + 1 - i ≤ g1 + 1 ∧ dk.size = d.size ∧ wr = (putRow (Value.int .i16) w blk off dk).drewN n ∧ Hid (insOuter ltI a b i dk = insOuter ltI a b (a + 1) d))
  case atStart => exact ⟨a + 1, 0, d, by go_num, by omega, by omega, by omega, rfl, HST.out, rfl⟩
  case round =>
    obtain ⟨i, n, dk, rfl, hai, hib, hg1, hsk, rfl, HO⟩ := hrel
    by_cases hlt : i < b
    · have hltz : (i : Int) < (b : Int) := by omega
      go_wp2_with fail
      go_loopg [7] i (fun g2 vj wr2 => ∃ (j m : Nat) (dj : Array Int), vj = .int .i64 j ∧ a ≤ j ∧ j ≤ i ∧ j ≤ g2 ∧ dj.size = d.size ∧ wr2 = (putRow (Value.int .i16) w blk off dj).drewN m ∧ Hid (insInner ltI a j dj = insInner ltI a i dk))
      case atStart => exact ⟨i, n, dk, rfl, by omega, Nat.le_refl _, Nat.le_refl _, hsk, rfl, rfl⟩
      case round =>
        obtain ⟨j, m, dj, rfl, haj, hji, hg2, hsj, rfl, HI⟩ := hrel
        have out : (j ≤ a ∨ ltI dj[j]! dj[j - 1]! = false) → Hid (insOuter ltI a b (i + 1) dj = insOuter ltI a b (a + 1) d) := fun hs => by
          show _ = _
          rw [← HO.out, insOuter_go _ _ _ _ _ hlt, ← HI.out, insInner_stop _ _ _ _ hs]
        have OUT := Lib.hid out
        clear out
        by_cases hja : a < j
        · have hjaz : (a : Int) < (j : Int) := by omega
          have hHj := holds_putRow (Value.int .i16) w blk off d dj HH.out hsj
          obtain ⟨xj, hxj⟩ : ∃ x, dj[j]! = x := ⟨_, rfl⟩
          obtain ⟨xp, hxp⟩ : ∃ x, dj[j - 1]! = x := ⟨_, rfl⟩
          obtain ⟨cj, fj⟩ := hHj j (by omega)
          obtain ⟨cp, fp⟩ := hHj (j - 1) (by omega)
          rw [hxj] at cj
          rw [hxp] at cp
          obtain ⟨jp, rfl⟩ : ∃ jp, j = jp + 1 := ⟨j - 1, by omega⟩
          simp only [Nat.add_sub_cancel] at cp fp hxp
          have hwp : IntKind.i64.wrap (jp : Int) = (jp : Int) := by rw [IntKind.wrap_i64]; omega
          have jz : (jp : Int) + 1 < (d.size : Int) := by omega
          have jz1 : (jp : Int) < (d.size : Int) := by omega
          have hjaz' : (a : Int) < (jp : Int) + 1 := by omega
          have p0 : (0 : Int) ≤ (jp : Int) + 1 := by omega
          have e0 : ((jp : Int) + 1).toNat = jp + 1 := by omega
          clear hHj
          have cj' : ((putRow (Value.int .i16) w blk off dj).drewN m).cell? ⟨blk, off + (jp + 1), none⟩ = some ((Value.int .i16) xj) := cj
          have cp' : ((putRow (Value.int .i16) w blk off dj).drewN m).cell? ⟨blk, off + jp, none⟩ = some ((Value.int .i16) xp) := cp
          have fj' : ((putRow (Value.int .i16) w blk off dj).drewN m).frozen? ⟨blk, off + (jp + 1), none⟩ = false := fj
          have fp' : ((putRow (Value.int .i16) w blk off dj).drewN m).frozen? ⟨blk, off + jp, none⟩ = false := fp
          clear cj cp fj fp
          generalize hwq : (putRow (Value.int .i16) w blk off dj).drewN m = wq at cj' cp' fj' fp' ⊢
          have HWQ := Lib.hid hwq
          clear hwq
          cases hl : ltI xj xp
          · have HL := Lib.hid hl
            have HCL : Hid (∀ w, Calls Try.prog 134 #[.int .i16 xj, .int .i16 xp] w fun e w' => e = .returned (.bool (ltI xj xp)) ∧ w' = w) := fun w => Less_any xj xp w
            rw [hl] at HCL
            clear hl
            go_wp2_with fail
            go_quiet_o (exact Calls.quiet_of_same (HCL.out _))
            go_wp2_with fail
            go_roundg (b - (i + 1))
            case measure => omega
            case rel => exact ⟨i + 1, _, dj, by go_num, by omega, by omega, by omega, hsj, by rw [← HWQ.out, World.drewN_drewN], OUT.out (Or.inr (by simp only [Nat.add_sub_cancel]; rw [hxj, hxp]; exact HL.out))⟩
          · have HL := Lib.hid hl
            have HCL : Hid (∀ w, Calls Try.prog 134 #[.int .i16 xj, .int .i16 xp] w fun e w' => e = .returned (.bool (ltI xj xp)) ∧ w' = w) := fun w => Less_any xj xp w
            rw [hl] at HCL
            clear hl
            go_wp2_with fail
            go_quiet_o (exact Calls.quiet_of_same (HCL.out _))
            go_wp2_with fail
            have hw2 : wq.drewN nq = (putRow (Value.int .i16) w blk off dj).drewN (m + nq) := by rw [← HWQ.out, World.drewN_drewN]
            have cj2 : (wq.drewN nq).cell? ⟨blk, off + (jp + 1), none⟩ = some ((Value.int .i16) xj) := cj'
            have cp2 : (wq.drewN nq).cell? ⟨blk, off + jp, none⟩ = some ((Value.int .i16) xp) := cp'
            have fj2 : (wq.drewN nq).frozen? ⟨blk, off + (jp + 1), none⟩ = false := fj'
            have fp2 : (wq.drewN nq).frozen? ⟨blk, off + jp, none⟩ = false := fp'
            clear cj' cp' fj' fp'
            generalize wq.drewN nq = wq2 at hw2 cj2 cp2 fj2 fp2 ⊢
            obtain ⟨j1, hj1⟩ : ∃ j1, j1 = jp + 1 := ⟨_, rfl⟩
            rw [← hj1] at cj2 fj2 e0
            have J1 : Hid (j1 = jp + 1) := hj1
            have HW2 : Hid (wq2 = (putRow (Value.int .i16) w blk off dj).drewN (m + nq)) := hw2
            clear hj1 hw2
            go_big_region_o
            all_goals go_wp2_with fail
            go_roundg jp
            case measure => omega
            case rel =>
              refine ⟨jp, m + nq + 1, swp dj (jp + 1) jp, by first | rfl | go_num | (congr 1; omega), by omega, by omega, Nat.le_refl _, by rw [size_swp]; exact hsj, ?_, (show Hid _ from ?_)⟩
              · rw [J1.out, HW2.out, ← hxp, ← hxj]
                exact swap_worldC (Value.int .i16) w blk off dj (m + nq) (jp + 1) jp (by omega) (by omega)
              · show _ = _
                have := insInner_go ltI a (jp + 1) dj hja (by simp only [Nat.add_sub_cancel]; rw [hxj, hxp]; exact HL.out)
                simp only [Nat.add_sub_cancel] at this
                rw [← HI.out, this]
        · have hjaz : decide ((j : Int) > (a : Int)) = false := decide_eq_false (by omega)
          have hjaz' : ¬ (a : Int) < (j : Int) := by omega
          generalize hwq : (putRow (Value.int .i16) w blk off dj).drewN m = wq
          have HWQ := Lib.hid hwq
          clear hwq
          go_wp2_with fail
          go_big_region_o
          all_goals go_wp2_with fail
          go_roundg (b - (i + 1))
          case measure => omega
          case rel => exact ⟨i + 1, m + 1, dj, by go_num, by omega, by omega, by omega, hsj, (show _ = (putRow (Value.int .i16) w blk off dj).drewN (m + 1) from by first | rfl | (rw [← HWQ.out]; rfl)), OUT.out (Or.inl (by omega))⟩
    · have hltz : ¬ (i : Int) < (b : Int) := by omega
      go_wp2_with fail
      go_end0
      exact ⟨rfl, n, by unfold Sort.insertionSort; rw [← HO.out, insOuter_stop _ _ _ _ _ hlt]⟩
end Go.Proofs.Ytonmdkhfongmhaa
