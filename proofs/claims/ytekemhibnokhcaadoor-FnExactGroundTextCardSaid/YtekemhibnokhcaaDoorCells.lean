/- The cells of a ground, in a list. -/
import Derived.Test.YtekemhibnokhcaaDoorBal
namespace Go.Proofs.YtekemhibnokhcaaDoor
open Go.RowKit

def cellsTo (W H : Int) (k : Nat) : List Nat := (List.range k).filter fun c => hasB W H c
def ints (l : List Nat) : List Value := l.map fun c : Nat => .int .i64 c

theorem cellsTo_yes {W H : Int} {k : Nat} (h : hasB W H k = true) : cellsTo W H (k + 1) = cellsTo W H k ++ [k] := by
  unfold cellsTo; rw [List.range_succ, List.filter_append]; simp [h]
theorem cellsTo_no {W H : Int} {k : Nat} (h : hasB W H k = false) : cellsTo W H (k + 1) = cellsTo W H k := by
  unfold cellsTo; rw [List.range_succ, List.filter_append]; simp [h]
theorem cellsTo_length (W H : Int) (k : Nat) : (cellsTo W H k).length ≤ k := by
  unfold cellsTo; exact Nat.le_trans (List.length_filter_le _ _) (by simp)
theorem cellsTo_lt {W H : Int} {k c : Nat} (h : c ∈ cellsTo W H k) : c < k := by
  unfold cellsTo at h; simpa using (List.mem_filter.1 h).1

/-- A list of whole numbers in new memory is handed back. -/
def RetL (l : List Nat) (w : World) (e : Ending) (w' : World) : Prop := ∃ v, e = .returned v ∧ w'.ownsRow w.heap.size 3 1 v l.length (ints l) ∧ Below w.heap.size w w'

def CellsRel (W H : Int) (w : World) (v3 v6 : Value) (wr : World) : Prop := ∃ k : Nat, k ≤ 64 ∧ v6 = .int .i64 k ∧ wr.ownsRow w.heap.size 3 1 v3 (cellsTo W H k).length (ints (cellsTo W H k)) ∧ Below w.heap.size w wr

theorem Tryd.info3 : (Tryd.prog.info? 3).map (fun i => (i.zero, i.size, i.bytes)) = some (some (.int .i64 0), 1, 8) := by kernel_rfl

theorem ints_snoc (l : List Nat) (k : Nat) : ints (l ++ [k]) = ints l ++ [.int .i64 k] := by simp [ints]

set_option maxRecDepth 100000 in
set_option maxHeartbeats 400000 in
theorem cells_any (b o : Nat) (g : G) (w : World) (hr : g.Rng) (hg : GAt w b o g) :
    Calls Tryd.prog 28 #[.pointer (some ⟨b, o, none⟩)] w (RetL (cellsTo g.wide g.high 64) w) := by
  obtain ⟨i0, hi, hz0, hz1, hz2⟩ := info_parts Tryd.info3
  go_enter Tryd.func28, Tryd.ntmps28
  go_wp2_with fail
  go_loopw [3, 6] (fun v3 v6 wr => CellsRel g.wide g.high w v3 v6 wr) (fun _ v6 _ => 64 - (intOf v6).toNat)
  case atStart => exact ⟨0, by omega, rfl, World.ownsRow_lit w #[] 0 (Nat.le_refl _) (by simp [maxLen]) rfl, (Below.refl _ _).alloc (Nat.le_refl _) _⟩
  case round =>
    obtain ⟨k, hk, rfl, hown, hB⟩ := hrel
    have HG := Lib.hid (hg.below hB)
    have HB := Lib.hid hB
    have HO := Lib.hid hown
    clear hB hg hown
    by_cases hlt : k < 64
    · cases hh : hasB g.wide g.high k
      · have HH := Lib.hid hh
        clear hh
        go_wp2_with (first | (go_at_call 53; refine (has_any b o k g _ hlt hr HG.out).mono ?_; rw [HH.out]; rintro e w' ⟨rfl, rfl⟩))
        go_roundw
        case rel => exact ⟨k + 1, by omega, by go_num, by rw [cellsTo_no HH.out]; exact HO.out, HB.out⟩
        case measure => simp [intOf]; omega
      · have HH := Lib.hid hh
        have hlen := cellsTo_length g.wide g.high k
        have hbs := HB.out.size
        have hown := HO.out
        clear hh
        go_wp2_with (first | (go_at_call 53; refine (has_any b o k g _ hlt hr HG.out).mono ?_; rw [HH.out]; rintro e w' ⟨rfl, rfl⟩) | (at_builtin; refine wpList_append_own _ rfl _ _ 63 rfl w.heap.size 3 i0 (.int .i64 0) 1 8 Tryd.underlying63 hi hz0 hz1 hz2 rfl (by decide) _ _ _ rfl (hown.alloc _) ⟨wr.heap.size, 0, none⟩ 1 1 [.int .i64 k] rfl rfl (cell_one_new _ _ _) (by simp [Value.oneCell']) (by unfold maxLen; omega) (by omega) (by simp; omega) ?_))
        intro v' w1 hown1 hgrow _
        have HO1 := Lib.hid hown1
        have HB1 := Lib.hid hgrow
        clear hown1 hgrow hown
        go_wp2
        go_roundw
        case rel => exact ⟨k + 1, by omega, by go_num, by rw [cellsTo_yes HH.out, ints_snoc, List.length_append]; exact HO1.out, (HB.out.alloc (by omega) _).grown HB1.out (by simp; omega) (fun k hk => (HO.out.lt k hk).1)⟩
        case measure => simp [intOf]; omega
    · go_wp2
      obtain rfl : k = 64 := by omega
      go_ret
      exact ⟨_, rfl, HO.out, HB.out⟩
end Go.Proofs.YtekemhibnokhcaaDoor
