/- The cells of a brine that are not fixed: both sides. -/
import Derived.Test.YtfcphfdfpjmgiaaBrAsk
import Derived.Test.YtfcphfdfpjmgiaaFree
import Derived.Test.YtfcphfdfpjmgiaaFlist
import Derived.Maps.AppendAt
namespace Go.Proofs.Ytfcphfdfpjmgiaa
open Go.RowKit

def freeTo (m : M) (j : Nat) : List Nat := ((cellsM m).take j).filter fun c => !fixB m.fixed c
theorem freeTo_all (m : M) {j : Nat} (h : (cellsM m).length ≤ j) : freeTo m j = freeL m 64 := by
  unfold freeTo freeL; rw [List.take_of_length_le h]; rfl
theorem freeTo_yes {m : M} {j c : Nat} (h : (cellsM m)[j]? = some c) (hf : fixB m.fixed c = false) : freeTo m (j + 1) = freeTo m j ++ [c] := by
  unfold freeTo; rw [take_more h, List.filter_append]; simp [hf]
theorem freeTo_no {m : M} {j c : Nat} (h : (cellsM m)[j]? = some c) (hf : fixB m.fixed c = true) : freeTo m (j + 1) = freeTo m j := by
  unfold freeTo; rw [take_more h, List.filter_append]; simp [hf]
theorem freeTo_len (m : M) (j : Nat) : (freeTo m j).length ≤ 64 := by
  unfold freeTo
  refine Nat.le_trans (List.length_filter_le _ _) ?_
  rw [List.length_take]
  have := cellsTo_length m.wide m.high 64
  unfold cellsM
  omega

def FreeRel (m : M) (aL : Option Addr) (w : World) (v3 v10 : Value) (wr : World) : Prop :=
  ∃ j : Nat, j ≤ (cellsM m).length ∧ v10 = .int .i64 j ∧ wr.ownsRow w.heap.size 3 1 v3 (freeTo m j).length (ints (freeTo m j)) ∧
    (∀ (i c : Nat), (cellsM m)[i]? = some c → ∃ gq, aL = some ⟨gq, 0, none⟩ ∧ gq < wr.heap.size ∧ v3.ownBlock ≠ some gq ∧ wr.cell? ⟨gq, i, none⟩ = some (.int .i64 c)) ∧ Below w.heap.size w wr

set_option maxRecDepth 100000 in
set_option maxHeartbeats 800000 in
theorem free_any (b o : Nat) (g : G) (w : World) (hs : g.Sane) (hg : GAt w b o g) :
    Calls Try.prog 121 #[.pointer (some ⟨b, o, none⟩)] w (RetL (freeL g.m 64) w) := by
  obtain ⟨i0, hi, hz0, hz1, hz2⟩ := info_parts Try.info3
  have hr := hs.rng
  have H0 : Below w.heap.size w (w.alloc (.cells #[] 3)) := (Below.refl _ _).alloc (Nat.le_refl _) _
  go_enter Try.func121, Try.ntmps121
  go_wp2_with fail
  refine (cells_any b o g _ hr (hg.below H0)).mono ?_
  rintro e w1 ⟨v, rfl, hown, hb1⟩
  obtain ⟨aL, cap, rfl, hL⟩ := list_form hown
  have HL := Lib.hid hL
  have HB1 := Lib.hid (H0.trans (hb1.mono H0.size))
  have HG1 := Lib.hid ((hg.below H0).below hb1)
  have HO1 := Lib.hid (owns_below (World.ownsRow_lit w #[] 0 (Nat.le_refl _) (by simp [maxLen]) rfl : (w.alloc (.cells #[] 3)).ownsRow w.heap.size 3 1 _ 0 []) hb1)
  have HS : Hid (w.heap.size < (w.alloc (.cells #[] 3)).heap.size) := by show w.heap.size < _; simp
  have HG0 := Lib.hid hg
  clear hL hown hg H0 hb1
  go_wp2_with fail
  go_loopw [3, 10] (fun v3 v10 wr => FreeRel g.m aL w v3 v10 wr) (fun _ v10 _ => (cellsM g.m).length - (intOf v10).toNat)
  case atStart =>
    refine ⟨0, by omega, rfl, HO1.out, fun i c hc => ?_, HB1.out⟩
    obtain ⟨gq, h1, h2, h3, h4⟩ := HL.out i c hc
    refine ⟨gq, h1, h3, ?_, h4⟩
    have := HS.out
    simp [Value.ownBlock]
    omega
  case round =>
    obtain ⟨j, hj, rfl, hown, hLr, hB⟩ := hrel
    have HB := Lib.hid hB
    have HLR := Lib.hid hLr
    have HO := Lib.hid hown
    have HG : Hid (GAt wr b o g) := by
      show GAt wr b o g
      exact HG0.out.below hB
    clear hB hLr hown
    by_cases hlt : j < (cellsM g.m).length
    · obtain ⟨c, hc⟩ : ∃ c, (cellsM g.m)[j]? = some c := ⟨_, List.getElem?_eq_getElem hlt⟩
      have hmem := List.mem_of_getElem? hc
      have hc64 : c < 64 := cellsTo_lt hmem
      have hj64 : j < 64 := Nat.lt_of_lt_of_le hlt (cellsTo_length _ _ _)
      obtain ⟨gq, rfl, hq1, hq2, hcell⟩ := HLR.out j c hc
      have HC := Lib.hid hc
      have hlt' : (j : Int) < ((cellsTo g.wide g.high 64).length : Int) := by have : j < (cellsTo g.wide g.high 64).length := hlt; omega
      clear hc hmem
      cases hf : fixB g.fixed c
      · have HF := Lib.hid hf
        have hlen := freeTo_len g.m j
        have hbs := HB.out.size
        have hown := HO.out
        clear hf
        go_wp2_with (first | (go_at_call 117; refine (fixed_any b o c g _ hc64 hs HG.out).mono ?_; rw [HF.out]; rintro e w' ⟨rfl, rfl⟩) | (at_builtin; refine wpList_append_own_at _ rfl _ _ 108 rfl w.heap.size 3 i0 (.int .i64 0) 1 8 Try.underlying108 hi hz0 hz1 hz2 rfl (by decide) _ _ _ rfl (hown.alloc _) ⟨wr.heap.size, 0, none⟩ 1 1 [.int .i64 c] rfl rfl (cell_one_new _ _ _) (by simp [Value.oneCell']) (by unfold maxLen; omega) (by omega) (by simp; omega) ?_))
        intro v' w3 hown1 hgrow _ hob
        have HO3 := Lib.hid hown1
        have HG3 := Lib.hid hgrow
        have HOB := Lib.hid hob
        clear hown1 hgrow hown hob
        go_wp2
        go_roundw
        case rel =>
          refine ⟨j + 1, by omega, by go_num, ?_, fun i c' hc' => ?_, (HB.out.alloc (by omega) _).grown HG3.out (by simp; omega) (fun k hk => (HO.out.lt k hk).1)⟩
          · rw [freeTo_yes HC.out HF.out, ints_snoc, List.length_append]; exact HO3.out
          · obtain ⟨gq', e, h2, h3, h4⟩ := HLR.out i c' hc'
            have h5 : (wr.alloc (.cells #[.int .i64 c] 3)).cell? ⟨gq', i, none⟩ = some (.int .i64 c') := cell_below ((Below.refl _ _).alloc (Nat.le_refl _) _) h4
            refine ⟨gq', e, Nat.lt_of_lt_of_le (by simp; omega) HG3.out.size, ?_, HG3.out.cell h5 (fun e => h3 e.symm)⟩
            rcases HOB.out with h | h
            · rw [h]; exact h3
            · rw [h]; simp; omega
        case measure => simp [intOf]; omega
      · have HF := Lib.hid hf
        clear hf
        go_wp2_with (go_at_call 117; refine (fixed_any b o c g _ hc64 hs HG.out).mono ?_; rw [HF.out]; rintro e w' ⟨rfl, rfl⟩)
        go_roundw
        case rel => exact ⟨j + 1, by omega, by go_num, by rw [freeTo_no HC.out HF.out]; exact HO.out, HLR.out, HB.out⟩
        case measure => simp [intOf]; omega
    · have hjn : (cellsM g.m).length ≤ j := by omega
      have hlt' : ¬ (j : Int) < ((cellsTo g.wide g.high 64).length : Int) := by have : ¬ j < (cellsTo g.wide g.high 64).length := hlt; omega
      have HO4 := Lib.hid HO.out
      rw [freeTo_all g.m hjn] at HO4
      clear hjn
      go_wp2_with fail
      go_ret
      exact ⟨_, rfl, HO4.out, HB.out⟩

set_option maxHeartbeats 400000 in
theorem l05Free_any (b k : Nat) (x : Br) (w : World) (hk : k < 64) (hs : x.gr.Sane) (hX : BAt w b x) :
    Calls Try.prog 124 #[.pointer (some ⟨b, 0, none⟩), .int .i64 k] w fun e w' => e = .returned (.bool (hasB x.gr.wide x.gr.high k && !fixB x.gr.fixed k)) ∧ w = w' := by
  have hr := hs.rng
  cases hh : hasB x.gr.wide x.gr.high k
  · have HH := Lib.hid hh
    clear hh
    go_enter Try.func124, Try.ntmps124
    go_wp2_with (go_at_call 111; refine (l01Is_any b 0 k x.gr _ hk hr hX.g).mono ?_; rw [HH.out]; rintro e w' ⟨rfl, rfl⟩)
    go_ret
    exact ⟨rfl, rfl⟩
  · have HH := Lib.hid hh
    clear hh
    cases hf : fixB x.gr.fixed k
    · have HF := Lib.hid hf
      clear hf
      go_enter Try.func124, Try.ntmps124
      go_wp2_with (first | (go_at_call 111; refine (l01Is_any b 0 k x.gr _ hk hr hX.g).mono ?_; rw [HH.out]; rintro e w' ⟨rfl, rfl⟩) | (go_at_call 119; refine (l01Fixed_any b 0 k x.gr _ hk hs hX.g).mono ?_; rw [HF.out]; rintro e w' ⟨rfl, rfl⟩))
      go_ret
      exact ⟨rfl, rfl⟩
    · have HF := Lib.hid hf
      clear hf
      go_enter Try.func124, Try.ntmps124
      go_wp2_with (first | (go_at_call 111; refine (l01Is_any b 0 k x.gr _ hk hr hX.g).mono ?_; rw [HH.out]; rintro e w' ⟨rfl, rfl⟩) | (go_at_call 119; refine (l01Fixed_any b 0 k x.gr _ hk hs hX.g).mono ?_; rw [HF.out]; rintro e w' ⟨rfl, rfl⟩))
      go_ret
      exact ⟨rfl, rfl⟩
end Go.Proofs.Ytfcphfdfpjmgiaa
