/- Three small numbers, sorted by the library: the middle one. -/
import Derived.Test.YtonmdkhfongmhaaTins
namespace Go.Proofs.Ytonmdkhfongmhaa
open Go.RowKit Go.Lib Go.Sort

set_option maxRecDepth 100000 in
set_option maxHeartbeats 1600000 in
theorem Len64_3 (w : World) : Calls Try.prog 138 #[.int .u64 3] w fun e w' => e = .returned (.int .i64 2) ∧ w = w' := by
  have h8 : wrap64 (wrap64 (Lib.len8 3)) = 2 := by decide +kernel
  go_enter Try.func138, Try.ntmps138
  go_wp2
  go_ret
  exact ⟨ret_int h8, rfl⟩
theorem Len_3 (w : World) : Calls Try.prog 112 #[.int .u64 3] w fun e w' => e = .returned (.int .i64 2) ∧ w = w' := by
  go_enter Try.func112, Try.ntmps112
  go_wp2_with (go_at_call 138; refine (Len64_3 _).mono ?_; rintro e w' ⟨rfl, rfl⟩)
  go_ret
  exact ⟨rfl, rfl⟩

/-- The middle one of three. -/
def med (p q r : Int) : Int := max (min p q) (min (max p q) r)
theorem ins_first (p q r : Int) : insInner ltI 0 1 #[p, q, r] = if q < p then #[q, p, r] else #[p, q, r] := by
  by_cases h : q < p
  · rw [if_pos h, insInner_go ltI 0 1 _ (by decide) (by show decide (q < p) = true; exact decide_eq_true h), insInner_stop ltI 0 _ _ (.inl (Nat.le_refl 0))]; rfl
  · rw [if_neg h, insInner_stop ltI 0 1 _ (.inr (by show decide (q < p) = false; exact decide_eq_false h))]
theorem ins_second (x y r : Int) : insInner ltI 0 2 #[x, y, r] = if r < y then (if r < x then #[r, x, y] else #[x, r, y]) else #[x, y, r] := by
  by_cases h : r < y
  · rw [if_pos h, insInner_go ltI 0 2 _ (by decide) (by show decide (r < y) = true; exact decide_eq_true h)]
    show insInner ltI 0 1 #[x, r, y] = _
    rw [ins_first]
  · rw [if_neg h, insInner_stop ltI 0 2 _ (.inr (by show decide (r < y) = false; exact decide_eq_false h))]
theorem ins_three (p q r : Int) : ∃ a b, Sort.insertionSort ltI #[p, q, r] 0 3 = #[a, med p q r, b] := by
  unfold Sort.insertionSort
  rw [insOuter_go ltI 0 3 1 _ (by decide), insOuter_go ltI 0 3 2 _ (by decide), insOuter_stop ltI 0 3 3 _ (by decide), ins_first]
  unfold med
  by_cases h : q < p
  · rw [if_pos h, ins_second]
    by_cases h2 : r < p
    · rw [if_pos h2]
      by_cases h3 : r < q
      · rw [if_pos h3]; exact ⟨r, p, by congr 2; congr 1; omega⟩
      · rw [if_neg h3]; exact ⟨q, p, by congr 2; congr 1; omega⟩
    · rw [if_neg h2]; exact ⟨q, r, by congr 2; congr 1; omega⟩
  · rw [if_neg h, ins_second]
    by_cases h2 : r < q
    · rw [if_pos h2]
      by_cases h3 : r < p
      · rw [if_pos h3]; exact ⟨r, q, by congr 2; congr 1; omega⟩
      · rw [if_neg h3]; exact ⟨p, q, by congr 2; congr 1; omega⟩
    · rw [if_neg h2]; exact ⟨p, r, by congr 2; congr 1; omega⟩

set_option maxRecDepth 100000 in
set_option maxHeartbeats 3200000 in
theorem pdq3_any (blk : Nat) (p q r : Int) (w : World) (hH : Holds (Value.int .i16) w blk 0 #[p, q, r]) :
    Calls Try.prog 111 #[.slice (some ⟨blk, 0, none⟩) 3 3, .int .i64 0, .int .i64 3, .int .i64 2] w fun e w' => e = .returned (.tuple #[]) ∧ ∃ n, w' = (putRow (Value.int .i16) w blk 0 (Sort.insertionSort ltI #[p, q, r] 0 3)).drewN n := by
  have H : Calls Try.prog 128 #[.slice (some ⟨blk, 0, none⟩) 3 3, .int .i64 0, .int .i64 3] w fun e w' => e = .returned (.tuple #[]) ∧ ∃ n, w' = (putRow (Value.int .i16) w blk 0 (Sort.insertionSort ltI #[p, q, r] 0 3)).drewN n := insOrd_any blk 0 3 0 3 #[p, q, r] w hH (by decide) (by show 3 ≤ 3; decide) (by show 3 < _; decide)
  have HC := Lib.hid H
  clear H
  go_enter Try.func111, Try.ntmps111
  go_wp2_with fail
  refine wp_loop_rounds 1 ?_
  rw [rounds_succ]
  go_wp2_with (go_at_call 128; refine HC.out.mono ?_; rintro e w1 ⟨rfl, n, hw1⟩; have HW := Lib.hid hw1; clear hw1)
  try simp only [Exit.inBlock, Exit.then]
  refine bodyPost_ret (results_none rfl _ _ _) rfl ?_
  exact ⟨rfl, n, HW.out⟩

set_option maxRecDepth 100000 in
set_option maxHeartbeats 1600000 in
theorem sort3_any (blk : Nat) (p q r : Int) (w : World) (hg : Blk w blk #[.int .i16 p, .int .i16 q, .int .i16 r] 79) :
    Calls Try.prog 88 #[.slice (some ⟨blk, 0, none⟩) 3 3] w fun e w' => e = .returned (.tuple #[]) ∧ w'.cell? ⟨blk, 1, none⟩ = some (.int .i16 (med p q r)) ∧ w.grownBy w' (some blk) := by
  have hH : Holds (Value.int .i16) w blk 0 #[p, q, r] := by
    intro j hj
    have hj3 : j < 3 := hj
    rw [Nat.zero_add]
    refine ⟨hg.at ?_, hg.free j⟩
    match j, hj3 with
    | 0, _ => rfl
    | 1, _ => rfl
    | 2, _ => rfl
  have HH := Lib.hid hH
  clear hH
  go_enter Try.func88, Try.ntmps88
  go_wp2_with (first | (go_at_call 112; refine (Len_3 _).mono ?_; rintro e w' ⟨rfl, rfl⟩) | (go_at_call 111; refine (pdq3_any blk p q r _ HH.out).mono ?_; rintro e w1 ⟨rfl, n, hw1⟩; have HW := Lib.hid hw1; clear hw1))
  go_end0
  obtain ⟨a, b, hab⟩ := ins_three p q r
  rw [hab] at HW
  rw [HW.out]
  refine ⟨rfl, ?_, ?_⟩
  · exact (holds_putRow (Value.int .i16) w blk 0 #[p, q, r] #[a, med p q r, b] HH.out rfl 1 (by show 1 < 3; decide)).1
  · refine ⟨rfl, rfl, rfl, by simp, fun k hk hne => ?_⟩
    show ((putRow (Value.int .i16) w blk 0 #[a, med p q r, b]).drewN n).heap[k]? = w.heap[k]?
    show (putRow (Value.int .i16) w blk 0 #[a, med p q r, b]).heap[k]? = w.heap[k]?
    unfold putRow mapBlock
    rw [Array.getElem?_modify, if_neg (fun h => hne (by rw [h]))]
end Go.Proofs.Ytonmdkhfongmhaa
