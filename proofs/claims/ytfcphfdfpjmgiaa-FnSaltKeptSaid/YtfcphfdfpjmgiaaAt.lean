/- The numbers of a field at some cells; their sum. -/
import Derived.Test.YtfcphfdfpjmgiaaGreat
import Derived.Test.YtfcphfdfpjmgiaaFlist
namespace Go.Proofs.Ytfcphfdfpjmgiaa
open Go.RowKit

def sumF (d : Nat → F) : List Nat → F
  | [] => some 0
  | c :: r => r.foldl (fun a y => fadd a (d y)) (d c)
theorem sumF_more {d : Nat → F} {l : List Nat} {c : Nat} (h : l.isEmpty = false) : sumF d (l ++ [c]) = fadd (sumF d l) (d c) := by
  cases l with
  | nil => cases h
  | cons x r => show (r ++ [c]).foldl _ _ = _; rw [List.foldl_append]; rfl
theorem sumF_one {d : Nat → F} {l : List Nat} {c : Nat} (h : l.isEmpty = true) : sumF d (l ++ [c]) = d c := by
  cases l with
  | nil => rfl
  | cons x r => cases h
theorem sumB_map (f : Nat → Nat) {l : List Nat} (h : ∀ c ∈ l, c < 64) : sumB (l.map f) = sumF (fm f) l := by
  cases l with
  | nil => rfl
  | cons x r =>
    show (r.map f).foldl _ (fb (f x)) = r.foldl _ (fm f x)
    rw [fm_of (h x (by simp))]
    have hr : ∀ c ∈ r, c < 64 := fun c hc => h c (List.mem_cons_of_mem _ hc)
    clear h
    generalize fb (f x) = a
    induction r generalizing a with
    | nil => rfl
    | cons y r ih =>
      show (r.map f).foldl _ (fadd a (fb (f y))) = r.foldl _ (fadd a (fm f y))
      rw [fm_of (hr y (by simp))]
      exact ih (fun c hc => hr c (List.mem_cons_of_mem _ hc)) _

def AtRel (f : Nat → Nat) (l : List Nat) (w : World) (v5 v11 : Value) (wr : World) : Prop :=
  ∃ j : Nat, j ≤ l.length ∧ v11 = .int .i64 j ∧ wr.ownsRow w.heap.size 25 1 v5 ((l.take j).map f).length (flts ((l.take j).map f)) ∧ Below w.heap.size w wr

set_option maxRecDepth 100000 in
set_option maxHeartbeats 800000 in
theorem at_at (bf of : Nat) (v : Value) (l : List Nat) (f : Nat → Nat) (w : World) (hl : ∀ c ∈ l, c < 64) (hlen : l.length ≤ 64) (hv : ListAt w v l) (hf : FAt w bf of f) :
    Calls Try.prog 135 #[v, .pointer (some ⟨bf, of, none⟩)] w fun e w' => ∃ v', e = .returned v' ∧ w'.ownsRow w.heap.size 25 1 v' (l.map f).length (flts (l.map f)) ∧ Below w.heap.size w w' := by
  obtain ⟨i0, hi, hz0, hz1, hz2⟩ := info_parts Try.info25
  obtain ⟨aL, cap, rfl, hL⟩ := hv
  have HL := Lib.hid hL
  have hbf : bf < w.heap.size := block_lt_of_cell (hf 0 (by omega))
  clear hL
  go_enter Try.func135, Try.ntmps135
  go_wp2_with fail
  go_loopw [5, 11] (fun v5 v11 wr => AtRel f l w v5 v11 wr) (fun _ v11 _ => l.length - (intOf v11).toNat)
  case atStart => exact ⟨0, by omega, rfl, World.ownsRow_lit w #[] 0 (Nat.le_refl _) (by simp [maxLen]) rfl, (Below.refl _ _).alloc (Nat.le_refl _) _⟩
  case round =>
    obtain ⟨j, hj, rfl, hown, hB⟩ := hrel
    have HF := Lib.hid (FAt.below hf hB)
    have HB := Lib.hid hB
    have HO := Lib.hid hown
    clear hf hB hown
    by_cases hlt : j < l.length
    · obtain ⟨c, hc⟩ : ∃ c, l[j]? = some c := ⟨_, List.getElem?_eq_getElem hlt⟩
      have hc64 : c < 64 := hl c (List.mem_of_getElem? hc)
      obtain ⟨gq, rfl, hq3⟩ := HL.out j c hc
      have hj64 : j < 64 := by omega
      have hcell := cell_below HB.out hq3
      have hfc := HF.out c hc64
      have HC := Lib.hid hc
      have c1 : (c : Int) < 64 := by omega
      have j1 : (j : Int) < (l.length : Int) := by omega
      have hlen2 : ((l.take j).map f).length = j := by rw [List.length_map, List.length_take]; omega
      have hbs := HB.out.size
      have hown := HO.out
      clear hc hq3
      go_wp2_with (at_builtin; refine wpList_append_own _ rfl _ _ 128 rfl w.heap.size 25 i0 (.float .f32 0) 1 4 Try.underlying128 hi hz0 hz1 hz2 rfl (by decide) _ _ _ rfl (hown.alloc _) ⟨wr.heap.size, 0, none⟩ 1 1 [.float .f32 (f c)] rfl rfl (cell_one_new _ _ _) (by simp [Value.oneCell']) (by unfold maxLen; omega) (by omega) (by simp; omega) ?_)
      intro v' w1 hown1 hgrow _
      have HO1 := Lib.hid hown1
      have HB1 := Lib.hid hgrow
      clear hown1 hgrow hown
      go_wp2
      go_roundw
      case rel =>
        refine ⟨j + 1, by omega, by go_num, ?_, (HB.out.alloc (by omega) _).grown HB1.out (by simp; omega) (fun k hk => (HO.out.lt k hk).1)⟩
        rw [take_more HC.out, List.map_append]
        show World.ownsRow _ _ _ _ _ ((List.map f (List.take j l) ++ [f c]).length) (flts (List.map f (List.take j l) ++ [f c]))
        rw [flts_snoc, List.length_append, hlen2, List.map_take]
        exact HO1.out
      case measure => simp [intOf]; omega
    · have hjn : j = l.length := by omega
      have j1 : ¬ (j : Int) < (l.length : Int) := by omega
      have HO2 := Lib.hid HO.out
      rw [List.take_of_length_le (Nat.le_of_eq hjn.symm)] at HO2
      clear hjn
      go_wp2_with fail
      go_ret
      exact ⟨_, rfl, by have := HO2.out; rw [List.length_map] at this; exact this, HB.out⟩
theorem at_any (bf : Nat) (v : Value) (l : List Nat) (f : Nat → Nat) (w : World) (hl : ∀ c ∈ l, c < 64) (hlen : l.length ≤ 64) (hv : ListAt w v l) (hf : FAt w bf 0 f) :
    Calls Try.prog 135 #[v, .pointer (some ⟨bf, 0, none⟩)] w fun e w' => ∃ v', e = .returned v' ∧ FListAt w' v' (l.map f) ∧ Below w.heap.size w w' :=
  (at_at bf 0 v l f w hl hlen hv hf).mono fun _ _ ⟨v', h1, h2, h3⟩ => ⟨v', h1, flist_of h2, h3⟩
end Go.Proofs.Ytfcphfdfpjmgiaa
