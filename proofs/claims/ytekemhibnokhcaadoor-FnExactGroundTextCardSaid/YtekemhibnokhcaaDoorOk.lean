/- Whether a ground is valid: the small tests, fields, the bits of all cells. -/
import Derived.Test.YtekemhibnokhcaaDoorBals
import Derived.Deep.QuietTactic
import Derived.BigQuiet
namespace Go.Proofs.YtekemhibnokhcaaDoor
open Go.RowKit

def plain (x : F) : Bool := fge x (some 3380609024) && fle x (some 1233125376)
def amount (x : F) : Bool := plain x && fge x (some 0)

theorem fbLow : fb 3380609024 = some 3380609024 := by decide
theorem fbHigh : fb 1233125376 = some 1233125376 := by decide

set_option maxHeartbeats 400000 in
theorem in_any (n lo hi : Int) (w : World) : Calls Tryd.prog 48 #[.int .i64 n, .int .i64 lo, .int .i64 hi] w fun e w' => e = .returned (.bool (decide (lo ≤ n) && decide (n ≤ hi))) ∧ w = w' := by
  go_enter Tryd.func48, Tryd.ntmps48
  go_wp2_with fail
  all_goals
    go_ret
    refine ⟨ret_bool ?_, rfl⟩
    simp
    try omega
theorem in_yes (n lo hi : Int) (w : World) (h1 : lo ≤ n) (h2 : n ≤ hi) : Calls Tryd.prog 48 #[.int .i64 n, .int .i64 lo, .int .i64 hi] w fun e w' => e = .returned (.bool true) ∧ w = w' :=
  (in_any n lo hi w).mono fun e w' ⟨he, hw⟩ => ⟨by rw [he, decide_eq_true h1, decide_eq_true h2]; rfl, hw⟩
theorem in_no (n lo hi : Int) (w : World) (h : ¬ (lo ≤ n ∧ n ≤ hi)) : Calls Tryd.prog 48 #[.int .i64 n, .int .i64 lo, .int .i64 hi] w fun e w' => e = .returned (.bool false) ∧ w = w' :=
  (in_any n lo hi w).mono fun e w' ⟨he, hw⟩ => ⟨by rw [he]; refine ret_bool ?_; simp; omega, hw⟩

set_option maxHeartbeats 400000 in
theorem l00In_any (n lo hi : Int) (w : World) : Calls Tryd.prog 40 #[.int .i64 n, .int .i64 lo, .int .i64 hi] w fun e w' => e = .returned (.bool (decide (lo ≤ n) && decide (n ≤ hi))) ∧ w = w' := by
  go_enter Tryd.func40, Tryd.ntmps40
  go_wp2_with fail
  all_goals
    go_ret
    refine ⟨ret_bool ?_, rfl⟩
    simp
    try omega
theorem l00In_yes (n lo hi : Int) (w : World) (h1 : lo ≤ n) (h2 : n ≤ hi) : Calls Tryd.prog 40 #[.int .i64 n, .int .i64 lo, .int .i64 hi] w fun e w' => e = .returned (.bool true) ∧ w = w' :=
  (l00In_any n lo hi w).mono fun e w' ⟨he, hw⟩ => ⟨by rw [he, decide_eq_true h1, decide_eq_true h2]; rfl, hw⟩
theorem l00In_no (n lo hi : Int) (w : World) (h : ¬ (lo ≤ n ∧ n ≤ hi)) : Calls Tryd.prog 40 #[.int .i64 n, .int .i64 lo, .int .i64 hi] w fun e w' => e = .returned (.bool false) ∧ w = w' :=
  (l00In_any n lo hi w).mono fun e w' ⟨he, hw⟩ => ⟨by rw [he]; refine ret_bool ?_; simp; omega, hw⟩

set_option maxHeartbeats 400000 in
theorem IsPlain_any (a : Nat) (w : World) : Calls Tryd.prog 51 #[.float .f32 a] w (RetB (plain (fb a)) w) := by
  have hgt := order_gt
  have hlt := order_lt
  have heq := order_eq
  go_enter Tryd.func51, Tryd.ntmps51
  go_wp2_with fail
  all_goals
    go_ret
    refine ⟨ret_bool ?_, Below.refl _ _⟩
    simp only [fbLow, fbHigh] at *
    simp [plain, fge, fle, *]

set_option maxHeartbeats 400000 in
theorem l01Plain_any (a : Nat) (w : World) : Calls Tryd.prog 63 #[.float .f32 a] w (RetB (plain (fb a)) w) := by
  have hgt := order_gt
  have hlt := order_lt
  have heq := order_eq
  go_enter Tryd.func63, Tryd.ntmps63
  go_wp2_with fail
  all_goals
    go_ret
    refine ⟨ret_bool ?_, Below.refl _ _⟩
    simp only [fbLow, fbHigh] at *
    simp [plain, fge, fle, *]

set_option maxHeartbeats 400000 in
theorem isAmount_any (a : Nat) (w : World) : Calls Tryd.prog 50 #[.float .f32 a] w (RetB (amount (fb a)) w) := by
  have hgt := order_gt
  have heq := order_eq
  cases hp : plain (fb a)
  · have HP := Lib.hid hp
    clear hp
    go_enter Tryd.func50, Tryd.ntmps50
    go_wp2_with (go_at_call 51; refine (IsPlain_any a _).mono ?_; rw [HP.out]; rintro e w1 ⟨rfl, hb1⟩)
    go_ret
    exact ⟨ret_bool (by simp [amount, HP.out]), by assumption⟩
  · have HP := Lib.hid hp
    clear hp
    go_enter Tryd.func50, Tryd.ntmps50
    go_wp2_with (go_at_call 51; refine (IsPlain_any a _).mono ?_; rw [HP.out]; rintro e w1 ⟨rfl, hb1⟩)
    go_ret
    refine ⟨ret_bool ?_, by assumption⟩
    simp only [fb0]
    simp [amount, HP.out, fge]

set_option maxHeartbeats 400000 in
theorem l01Is_any (b o k : Nat) (g : G) (w : World) (hk : k < 64) (hr : g.Rng) (hg : GAt w b o g) :
    Calls Tryd.prog 43 #[.pointer (some ⟨b, o, none⟩), .int .i64 k] w fun e w' => e = .returned (.bool (hasB g.wide g.high k)) ∧ w = w' := by
  have h0 := hg.wide
  have h1 := hg.high
  obtain ⟨⟨r0, r1⟩, ⟨r2, r3⟩⟩ := hr
  clear hg
  unfold hasB
  go_enter Tryd.func43, Tryd.ntmps43
  go_wp2_with (go_at_call 40; refine (l00In_yes _ _ _ _ (by omega) (by omega)).mono ?_; rintro e w' ⟨rfl, rfl⟩)
  all_goals
    go_ret
    exact ⟨ret_bool (by simp; omega), rfl⟩

/-- A field lies at an address. -/
def FAt (w : World) (b o : Nat) (f : Nat → Nat) : Prop := ∀ i, i < 64 → w.cell? ⟨b, o + i, none⟩ = some (.float .f32 (f i))
theorem FAt.below {w w' : World} {b o : Nat} {f : Nat → Nat} (h : FAt w b o f) (hb : Below w.heap.size w w') : FAt w' b o f := fun i hi => by
  have h1 := h i hi
  have h2 : b < w.heap.size := block_lt_of_cell h1
  rw [← h1]; exact hb.cell (p := ⟨b, o + i, none⟩) h2
theorem GAt.fc {w : World} {b o : Nat} {g : G} (h : GAt w b o g) : FAt w b (o + 2) g.c := fun _ hi => h.c hi
theorem GAt.fg {w : World} {b o : Nat} {g : G} (h : GAt w b o g) : FAt w b (o + 66) g.g := fun _ hi => h.g hi
theorem GAt.fh {w : World} {b o : Nat} {g : G} (h : GAt w b o g) : FAt w b (o + 130) g.h := fun _ hi => h.h hi

/-- The first cells of a field are right: those of the ground by a test, the others 0. -/
def fieldTo (W H : Int) (right : F → Bool) (f : Nat → F) (k : Nat) : Bool := (List.range k).all fun i => if hasB W H i then right (f i) else feq (f i) (some 0)
theorem fieldTo_more {W H : Int} {right : F → Bool} {f : Nat → F} {k : Nat} : fieldTo W H right f (k + 1) = (fieldTo W H right f k && (if hasB W H k then right (f k) else feq (f k) (some 0))) := by
  unfold fieldTo; rw [List.range_succ, List.all_append]; simp
theorem fieldTo_bad {W H : Int} {right : F → Bool} {f : Nat → F} {k n : Nat} (hk : k < n) (h : (if hasB W H k then right (f k) else feq (f k) (some 0)) = false) : fieldTo W H right f n = false := by
  unfold fieldTo; rw [List.all_eq_false]; exact ⟨k, List.mem_range.2 hk, by rw [h]; simp⟩

def FieldRel (W H : Int) (right : F → Bool) (f : Nat → F) (w : World) (v : Value) (wr : World) : Prop := ∃ k : Nat, k ≤ 64 ∧ v = .int .i64 k ∧ fieldTo W H right f k = true ∧ Below w.heap.size w wr

theorem order_ne (x y : Nat) : (FloatKind.f32.format.order x y != some .eq) = !feq (fb x) (fb y) := by rw [order32]; rfl

set_option maxRecDepth 100000 in
set_option maxHeartbeats 800000 in
theorem fieldOk_amount (b o bf of : Nat) (g : G) (f : Nat → Nat) (w : World) (hr : g.Rng) (hg : GAt w b o g) (hf : FAt w bf of f) :
    Calls Tryd.prog 49 #[.pointer (some ⟨b, o, none⟩), .pointer (some ⟨bf, of, none⟩), .func (.func 50) #[] #[]] w (RetB (fieldTo g.wide g.high amount (fm f) 64) w) := by
  have hne := order_ne
  go_enter Tryd.func49, Tryd.ntmps49
  go_wp2_with fail
  go_loopw [10] (fun v10 wr => FieldRel g.wide g.high amount (fm f) w v10 wr) (fun v10 _ => 64 - (intOf v10).toNat)
  case atStart => exact ⟨0, by omega, rfl, rfl, Below.refl _ _⟩
  case round =>
    obtain ⟨k, hk, rfl, hto, hB⟩ := hrel
    have HG := Lib.hid (hg.below hB)
    have HF := Lib.hid (hf.below hB)
    have HB := Lib.hid hB
    have HT := Lib.hid hto
    clear hB hg hf hto
    by_cases hlt : k < 64
    · have hcell := HF.out k hlt
      have k1 : (k : Int) < 64 := by omega
      have k2 : (k : Int) < ((64 : Nat) : Int) := by omega
      have hb : bf < wr.heap.size := block_lt_of_cell hcell
      cases hh : hasB g.wide g.high k
      · have HH := Lib.hid hh
        clear hh
        cases he : feq (fb (f k)) (fb 0)
        · have HE := Lib.hid he
          go_wp2_with fail
          go_quiet (fail)
          go_wp2_with (go_at_call 53; refine (has_any b o k g _ hlt hr (HG.out.below (below_drawn (Below.refl _ _) _))).mono ?_; rw [HH.out]; rintro e w' ⟨rfl, rfl⟩)
          go_ret
          refine ⟨ret_bool ?_, below_drawn HB.out _⟩
          rw [fieldTo_bad hlt]
          rw [HH.out, fm_of hlt, ← fb0, HE.out]; rfl
        · have HE := Lib.hid he
          go_wp2_with fail
          go_quiet (fail)
          go_wp2_with (go_at_call 53; refine (has_any b o k g _ hlt hr (HG.out.below (below_drawn (Below.refl _ _) _))).mono ?_; rw [HH.out]; rintro e w' ⟨rfl, rfl⟩)
          go_roundw
          case rel => exact ⟨k + 1, by omega, by go_num, by rw [fieldTo_more, HT.out, HH.out, fm_of hlt, ← fb0, HE.out]; rfl, below_drawn HB.out _⟩
          case measure => simp [intOf]; omega
      · have HH := Lib.hid hh
        clear hh
        cases he : amount (fb (f k))
        · have HE := Lib.hid he
          clear he
          go_wp2_with fail
          go_quiet (fail)
          go_wp2_with (first | (go_at_call 53; refine (has_any b o k g _ hlt hr (HG.out.below (below_drawn (Below.refl _ _) _))).mono ?_; rw [HH.out]; rintro e w' ⟨rfl, rfl⟩) | (go_at_call 50; refine (isAmount_any (f k) _).mono ?_; rw [HE.out]; rintro e w1 ⟨rfl, hb1⟩; have HB1 := Lib.hid hb1; clear hb1))
          go_ret
          refine ⟨ret_bool ?_, (below_drawn HB.out _).trans (HB1.out.mono HB.out.size)⟩
          rw [fieldTo_bad hlt]
          rw [HH.out, fm_of hlt, HE.out]; rfl
        · have HE := Lib.hid he
          clear he
          go_wp2_with fail
          go_quiet (fail)
          go_wp2_with fail
          refine (has_any b o k g _ hlt hr (HG.out.below (below_drawn (Below.refl _ _) _))).mono ?_
          rw [HH.out]
          rintro e w' ⟨rfl, rfl⟩
          go_wp2_with fail
          refine (isAmount_any (f k) _).mono ?_
          rw [HE.out]
          rintro e w1 ⟨rfl, hb1⟩
          have HB1 := Lib.hid ((below_drawn HB.out nq).trans (hb1.mono HB.out.size))
          have HG1 := Lib.hid ((HG.out.below (below_drawn (Below.refl _ _) nq)).below hb1)
          clear hb1
          go_wp2_with (go_at_call 53; refine (has_any b o k g _ hlt hr HG1.out).mono ?_; rw [HH.out]; rintro e w' ⟨rfl, rfl⟩)
          go_roundw
          case rel => exact ⟨k + 1, by omega, by go_num, by rw [fieldTo_more, HT.out, HH.out, fm_of hlt, if_pos rfl, HE.out]; rfl, HB1.out⟩
          case measure => simp [intOf]; omega
    · go_wp2
      obtain rfl : k = 64 := by omega
      go_ret
      exact ⟨ret_bool HT.out.symm, HB.out⟩

set_option maxRecDepth 100000 in
set_option maxHeartbeats 800000 in
theorem fieldOk_plain (b o bf of : Nat) (g : G) (f : Nat → Nat) (w : World) (hr : g.Rng) (hg : GAt w b o g) (hf : FAt w bf of f) :
    Calls Tryd.prog 49 #[.pointer (some ⟨b, o, none⟩), .pointer (some ⟨bf, of, none⟩), .func (.func 51) #[] #[]] w (RetB (fieldTo g.wide g.high plain (fm f) 64) w) := by
  have hne := order_ne
  go_enter Tryd.func49, Tryd.ntmps49
  go_wp2_with fail
  go_loopw [10] (fun v10 wr => FieldRel g.wide g.high plain (fm f) w v10 wr) (fun v10 _ => 64 - (intOf v10).toNat)
  case atStart => exact ⟨0, by omega, rfl, rfl, Below.refl _ _⟩
  case round =>
    obtain ⟨k, hk, rfl, hto, hB⟩ := hrel
    have HG := Lib.hid (hg.below hB)
    have HF := Lib.hid (hf.below hB)
    have HB := Lib.hid hB
    have HT := Lib.hid hto
    clear hB hg hf hto
    by_cases hlt : k < 64
    · have hcell := HF.out k hlt
      have k1 : (k : Int) < 64 := by omega
      have k2 : (k : Int) < ((64 : Nat) : Int) := by omega
      have hb : bf < wr.heap.size := block_lt_of_cell hcell
      cases hh : hasB g.wide g.high k
      · have HH := Lib.hid hh
        clear hh
        cases he : feq (fb (f k)) (fb 0)
        · have HE := Lib.hid he
          go_wp2_with fail
          go_quiet (fail)
          go_wp2_with (go_at_call 53; refine (has_any b o k g _ hlt hr (HG.out.below (below_drawn (Below.refl _ _) _))).mono ?_; rw [HH.out]; rintro e w' ⟨rfl, rfl⟩)
          go_ret
          refine ⟨ret_bool ?_, below_drawn HB.out _⟩
          rw [fieldTo_bad hlt]
          rw [HH.out, fm_of hlt, ← fb0, HE.out]; rfl
        · have HE := Lib.hid he
          go_wp2_with fail
          go_quiet (fail)
          go_wp2_with (go_at_call 53; refine (has_any b o k g _ hlt hr (HG.out.below (below_drawn (Below.refl _ _) _))).mono ?_; rw [HH.out]; rintro e w' ⟨rfl, rfl⟩)
          go_roundw
          case rel => exact ⟨k + 1, by omega, by go_num, by rw [fieldTo_more, HT.out, HH.out, fm_of hlt, ← fb0, HE.out]; rfl, below_drawn HB.out _⟩
          case measure => simp [intOf]; omega
      · have HH := Lib.hid hh
        clear hh
        cases he : plain (fb (f k))
        · have HE := Lib.hid he
          clear he
          go_wp2_with fail
          go_quiet (fail)
          go_wp2_with (first | (go_at_call 53; refine (has_any b o k g _ hlt hr (HG.out.below (below_drawn (Below.refl _ _) _))).mono ?_; rw [HH.out]; rintro e w' ⟨rfl, rfl⟩) | (go_at_call 51; refine (IsPlain_any (f k) _).mono ?_; rw [HE.out]; rintro e w1 ⟨rfl, hb1⟩; have HB1 := Lib.hid hb1; clear hb1))
          go_ret
          refine ⟨ret_bool ?_, (below_drawn HB.out _).trans (HB1.out.mono HB.out.size)⟩
          rw [fieldTo_bad hlt]
          rw [HH.out, fm_of hlt, HE.out]; rfl
        · have HE := Lib.hid he
          clear he
          go_wp2_with fail
          go_quiet (fail)
          go_wp2_with fail
          refine (has_any b o k g _ hlt hr (HG.out.below (below_drawn (Below.refl _ _) _))).mono ?_
          rw [HH.out]
          rintro e w' ⟨rfl, rfl⟩
          go_wp2_with fail
          refine (IsPlain_any (f k) _).mono ?_
          rw [HE.out]
          rintro e w1 ⟨rfl, hb1⟩
          have HB1 := Lib.hid ((below_drawn HB.out nq).trans (hb1.mono HB.out.size))
          have HG1 := Lib.hid ((HG.out.below (below_drawn (Below.refl _ _) nq)).below hb1)
          clear hb1
          go_wp2_with (go_at_call 53; refine (has_any b o k g _ hlt hr HG1.out).mono ?_; rw [HH.out]; rintro e w' ⟨rfl, rfl⟩)
          go_roundw
          case rel => exact ⟨k + 1, by omega, by go_num, by rw [fieldTo_more, HT.out, HH.out, fm_of hlt, if_pos rfl, HE.out]; rfl, HB1.out⟩
          case measure => simp [intOf]; omega
    · go_wp2
      obtain rfl : k = 64 := by omega
      go_ret
      exact ⟨ret_bool HT.out.symm, HB.out⟩
end Go.Proofs.YtekemhibnokhcaaDoor
