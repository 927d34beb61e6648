/- The first of some cells whose number has the greatest size. -/
import Derived.Test.YtfcphfdfpjmgiaaAbs
namespace Go.Proofs.Ytfcphfdfpjmgiaa
open Go.RowKit

def bestStep (d : Nat → F) (best : Option Nat) (c : Nat) : Option Nat :=
  match best with
  | none => some c
  | some b => if fgt (fabs (d c)) (fabs (d b)) then some c else some b
def bestOf (d : Nat → F) (l : List Nat) : Option Nat := l.foldl (bestStep d) none
def bestI : Option Nat → Int
  | none => -1
  | some b => b
theorem bestOf_snoc (d : Nat → F) (l : List Nat) (c : Nat) : bestOf d (l ++ [c]) = bestStep d (bestOf d l) c := by simp [bestOf]
theorem bestOf_mem {d : Nat → F} : ∀ {l : List Nat} {b : Nat}, bestOf d l = some b → b ∈ l := by
  intro l
  have key : ∀ (l : List Nat) (s : Option Nat) (b : Nat), l.foldl (bestStep d) s = some b → (s = some b ∨ b ∈ l) := by
    intro l
    induction l with
    | nil => intro s b h; exact .inl h
    | cons c l ih =>
      intro s b h
      rcases ih _ _ h with h1 | h1
      · unfold bestStep at h1
        split at h1
        · cases h1; exact .inr (by simp)
        · split at h1
          · cases h1; exact .inr (by simp)
          · exact .inl h1
      · exact .inr (List.mem_cons_of_mem _ h1)
  intro b h
  rcases key l none b h with h1 | h1
  · cases h1
  · exact h1

/-- A list of whole numbers that a slice shows. -/
def ListAt (w : World) (v : Value) (l : List Nat) : Prop :=
  ∃ a cap, v = .slice a l.length cap ∧ ∀ (j c : Nat), l[j]? = some c → ∃ gq, a = some ⟨gq, 0, none⟩ ∧ w.cell? ⟨gq, j, none⟩ = some (.int .i64 c)

/-- A callee's word: the size of what it is given. -/
def SSize (_ : FuncId) (args : Array Value) (v : Value) : Prop := ∃ a r, args = #[.float .f32 a] ∧ v = .float .f32 r ∧ Is r (fabs (fb a))

theorem listAt_of {w : World} {base : Nat} {v : Value} {l : List Nat} (h : w.ownsRow base 3 1 v l.length (ints l)) : ListAt w v l := by
  obtain ⟨a, cap, rfl, hL⟩ := list_form h
  exact ⟨a, cap, rfl, fun j c hc => by obtain ⟨gq, h1, _, _, h2⟩ := hL j c hc; exact ⟨gq, h1, h2⟩⟩

theorem bestOf_congr {d d' : Nat → F} : ∀ {l : List Nat}, (∀ c ∈ l, d c = d' c) → bestOf d l = bestOf d' l := by
  intro l
  have key : ∀ (l : List Nat) (s : Option Nat), (∀ c ∈ l, d c = d' c) → (∀ b, s = some b → d b = d' b) → l.foldl (bestStep d) s = l.foldl (bestStep d') s := by
    intro l
    induction l with
    | nil => intro s _ _; rfl
    | cons c l ih =>
      intro s h hs
      have hc : d c = d' c := h c (by simp)
      have e : bestStep d s c = bestStep d' s c := by
        unfold bestStep
        cases s with
        | none => rfl
        | some b => simp only; rw [hc, hs b rfl]
      show l.foldl _ (bestStep d s c) = l.foldl _ (bestStep d' s c)
      rw [e]
      refine ih _ (fun x hx => h x (List.mem_cons_of_mem _ hx)) fun b hb => ?_
      unfold bestStep at hb
      cases s with
      | none => cases hb; exact hc
      | some b0 =>
        simp only at hb
        split at hb
        · cases hb; exact hc
        · exact hs b hb
  intro h
  exact key l none h (fun _ h => by cases h)
theorem bestOf_some {d : Nat → F} {l : List Nat} (h : l ≠ []) : ∃ b, bestOf d l = some b := by
  have key : ∀ (l : List Nat) (b0 : Nat), ∃ b, l.foldl (bestStep d) (some b0) = some b := by
    intro l
    induction l with
    | nil => intro b0; exact ⟨b0, rfl⟩
    | cons c l ih =>
      intro b0
      show ∃ b, l.foldl _ (bestStep d (some b0) c) = some b
      unfold bestStep
      simp only
      split
      · exact ih c
      · exact ih b0
  cases l with
  | nil => exact absurd rfl h
  | cons c l => exact key l c
theorem has0 {W H : Int} (hW : 2 ≤ W) (hH : 2 ≤ H) : hasB W H 0 = true := by unfold hasB; simp; omega
theorem cells_ne {m : M} (hW : 2 ≤ m.wide) (hH : 2 ≤ m.high) : cellsM m ≠ [] := by
  unfold cellsM cellsTo
  intro h
  have : (0 : Nat) ∈ (List.range 64).filter fun c => hasB m.wide m.high c := List.mem_filter.2 ⟨by simp, has0 hW hH⟩
  rw [h] at this
  cases this

def GreatRel (d : Nat → F) (l : List Nat) (w : World) (v5 v10 : Value) (wr : World) : Prop :=
  ∃ (j : Nat) (z : Int), j ≤ l.length ∧ v10 = .int .i64 j ∧ v5 = .int .i64 z ∧ z = bestI (bestOf d (l.take j)) ∧ Below w.heap.size w wr

set_option maxRecDepth 100000 in
set_option maxHeartbeats 800000 in
theorem greatest_at (bf of : Nat) (v : Value) (l : List Nat) (f : Nat → Nat) (w : World) (hl : ∀ c ∈ l, c < 64) (hlen : l.length ≤ 64) (hfit : ∀ c, Fits (fm f c)) (hv : ListAt w v l) (hf : FAt w bf of f) :
    Calls Try.prog 109 #[v, .pointer (some ⟨bf, of, none⟩)] w (RetI .i64 (bestI (bestOf (fm f) l)) w) := by
  obtain ⟨aL, cap, rfl, hL⟩ := hv
  have HL := Lib.hid hL
  have HFIT := Lib.hid hfit
  have hgt := order_gt
  clear hL hfit
  have hbf : bf < w.heap.size := block_lt_of_cell (hf 0 (by omega))
  go_enter Try.func109, Try.ntmps109
  go_wp2_with fail
  go_loopw [5, 10] (fun v5 v10 wr => GreatRel (fm f) l w v5 v10 wr) (fun _ v10 _ => l.length - (intOf v10).toNat)
  case atStart => exact ⟨0, -1, by omega, rfl, rfl, rfl, Below.refl _ _⟩
  case round =>
    obtain ⟨j, z, hj, rfl, rfl, hz, hB⟩ := hrel
    have HF := Lib.hid (FAt.below hf hB)
    have HB := Lib.hid hB
    clear hf hB
    by_cases hlt : j < l.length
    · obtain ⟨c, hc⟩ : ∃ c, l[j]? = some c := ⟨_, List.getElem?_eq_getElem hlt⟩
      have hc64 : c < 64 := hl c (List.mem_of_getElem? hc)
      obtain ⟨gq, rfl, hq3⟩ := HL.out j c hc
      have hj64 : j < 64 := by omega
      have hcell := cell_below HB.out hq3
      have HC := Lib.hid hc
      have HMORE := Lib.hid (bestOf_snoc (fm f) (l.take j) c)
      have c1 : (c : Int) < 64 := by omega
      have j1 : (j : Int) < (l.length : Int) := by omega
      clear hc hq3
      cases hbest : bestOf (fm f) (l.take j) with
      | none =>
        rw [hbest] at HMORE hz
        obtain rfl : z = -1 := hz
        clear hbest
        go_wp2_with fail
        refine wp_soft SSize (by kernel_rfl) (by kernel_rfl) ?_
        repeat (refine soft_step (fun K hK => ?_); go_simp; (try go_bits); refine hK _ ?_; clear hK K)
        refine soft_nil ?_
        rintro w1 hw1
        have HB1 := Lib.hid (HB.out.trans (hw1.below.mono HB.out.size))
        clear hw1
        go_wp2_with fail
        go_roundw
        case rel => exact ⟨j + 1, c, by omega, by go_num, rfl, by rw [take_more HC.out, HMORE.out]; rfl, HB1.out⟩
        case measure => simp [intOf]; omega
      | some b =>
        have hb64 : b < 64 := hl b (List.mem_of_mem_take (bestOf_mem hbest))
        have b1 : (b : Int) < 64 := by omega
        rw [hbest] at HMORE hz
        obtain rfl : z = (b : Int) := hz
        clear hbest
        have q1 := fun x => ext_cell wr x (HF.out c hc64)
        have q2 := fun x => ext_cell wr x (HF.out b hb64)
        have F1 : Hid (Fits (fb (f c))) := by have := HFIT.out c; rw [fm_of hc64] at this; exact this
        have F2 : Hid (Fits (fb (f b))) := by have := HFIT.out b; rw [fm_of hb64] at this; exact this
        go_wp2_with fail
        refine wp_soft SSize (by kernel_rfl) (by kernel_rfl) ?_
        repeat (first | (refine soft_step (fun K hK => ?_); go_simp; (try go_bits); refine hK _ ?_; clear hK K) | (refine soft_step (fun K hK => ?_); go_simp; refine ⟨_, _, ⟨rfl, rfl⟩, fun x => (size_any _ _ _ Is.rfl ?_).mono ?_, ?_⟩; (first | exact F1.out | exact F2.out); (rintro e w1 ⟨r, he, hr, hb⟩; exact ⟨_, he, ⟨_, r, rfl, rfl, hr⟩, hb⟩); rintro v ⟨_, r, e, rfl, hr⟩; cases e; refine hK _ ?_; clear hK K))
        rename_i rc hrc
        refine soft_nil ?_
        rintro w1 hw1
        have HB1 := Lib.hid (HB.out.trans (hw1.below.mono HB.out.size))
        have hG : fgt (fb rc) (fb r) = fgt (fabs (fm f c)) (fabs (fm f b)) := by rw [hrc.out, hr.out, fm_of hc64, fm_of hb64]
        clear hw1 hrc hr q1 q2
        go_wp2_with fail
        · rename_i h
          have hT : fgt (fabs (fm f c)) (fabs (fm f b)) = true := by
            rw [← hG]
            rcases h with h | h
            · omega
            · exact h
          have HS : Hid (bestStep (fm f) (some b) c = some c) := by show (if _ then _ else _) = _; rw [hT]; rfl
          clear hT
          go_roundw
          case rel => exact ⟨j + 1, c, by omega, by go_num, rfl, by rw [take_more HC.out, HMORE.out, HS.out]; rfl, HB1.out⟩
          case measure => simp [intOf]; omega
        · rename_i h
          have hT : fgt (fabs (fm f c)) (fabs (fm f b)) = false := by rw [← hG]; exact h.2
          have HS : Hid (bestStep (fm f) (some b) c = some b) := by show (if _ then _ else _) = _; rw [hT]; rfl
          clear hT
          go_roundw
          case rel => exact ⟨j + 1, b, by omega, by go_num, rfl, by rw [take_more HC.out, HMORE.out, HS.out]; rfl, HB1.out⟩
          case measure => simp [intOf]; omega
    · have hjn : j = l.length := by omega
      have hlt' : ¬ (j : Int) < (l.length : Int) := by omega
      have HZ : Hid (z = bestI (bestOf (fm f) l)) := by rw [List.take_of_length_le (Nat.le_of_eq hjn.symm)] at hz; exact hz
      clear hjn hz
      go_wp2_with fail
      go_ret
      exact ⟨ret_int HZ.out, HB.out⟩
theorem greatest_any (bf : Nat) (v : Value) (l : List Nat) (f : Nat → Nat) (w : World) (hl : ∀ c ∈ l, c < 64) (hlen : l.length ≤ 64) (hfit : ∀ c, Fits (fm f c)) (hv : ListAt w v l) (hf : FAt w bf 0 f) :
    Calls Try.prog 109 #[v, .pointer (some ⟨bf, 0, none⟩)] w (RetI .i64 (bestI (bestOf (fm f) l)) w) := greatest_at bf 0 v l f w hl hlen hfit hv hf
end Go.Proofs.Ytfcphfdfpjmgiaa
