/- A ground's numbers that are no cells: by the program. -/
import Derived.Test.YtekemhibnokhcaaDoorDgb
import Derived.Test.YtekemhibnokhcaaDoorSize
namespace Go.Proofs.YtekemhibnokhcaaDoor
open Go.RowKit

theorem zero_of_feq {x : Nat} (h : feq (fb x) (some 0) = true) (hx : x < 4294967296) : x = 0 ∨ x = 2147483648 := by
  unfold feq ford fb fbOf at h
  split at h
  · cases h
  · have h2 : (Ieee.single.read x).order (Ieee.single.read 0) = some .eq := eq_of_beq h
    rw [show Ieee.single.read 0 = .number false 0 (-149) by decide] at h2
    by_cases hr : x % 2147483648 < 2139095040
    · obtain ⟨m, e, he, h3, h4, h5⟩ := read_rung x hr
      rw [he] at h2
      simp only [Ieee.Datum.order, Option.some.injEq] at h2
      have h6 := Std.LawfulEqCmp.eq_of_compare h2
      have hm : m = 0 := by
        revert h6
        unfold Ieee.signed
        cases (x / 2147483648 % 2 == 1) <;> simp
      subst hm
      omega
    · exfalso
      have hb : Ieee.single.binade = 8388608 := rfl
      have hi : Ieee.single.infRung = 2139095040 := rfl
      have hs : Ieee.single.signWeight = 2147483648 := rfl
      cases hd : Ieee.single.read x with
      | nan => rw [hd] at h2; simp [Ieee.Datum.order] at h2
      | infinity s => rw [hd] at h2; cases s <;> simp [Ieee.Datum.order] at h2
      | number s m e =>
        unfold Ieee.Format.read at hd
        simp only [hb, hi, hs] at hd
        split at hd
        · omega
        · split at hd <;> cases hd

theorem feq_zero0 : feq (fb 0) (some 0) = true := by decide
/-- What is no cell of a valid ground is a zero. -/
theorem field_zero {W H : Int} {right : F → Bool} {f : Nat → F} (h : fieldTo W H right f 64 = true) {k : Nat} (hk : k < 64) (hh : hasB W H k = false) : feq (f k) (some 0) = true := by
  cases he : feq (f k) (some 0)
  · have := fieldTo_bad (W := W) (H := H) (right := right) (f := f) (n := 64) hk (by rw [hh]; exact he)
    rw [this] at h; cases h
  · rfl
theorem zeros_of {g : G} (h : okI g.m = true) (h32 : g.B32) {k : Nat} (hk : k < 64) (hh : hasB g.wide g.high k = false) :
    (g.c k = 0 ∨ g.c k = 2147483648) ∧ (g.g k = 0 ∨ g.g k = 2147483648) ∧ (g.h k = 0 ∨ g.h k = 2147483648) := by
  unfold okI fieldsI at h
  simp only [Bool.and_eq_true] at h
  obtain ⟨⟨_, ⟨h1, h2⟩, h3⟩, _⟩ := h
  have a1 := field_zero h1 hk hh
  have a2 := field_zero h2 hk hh
  have a3 := field_zero h3 hk hh
  rw [show g.m.c k = fb (g.c k) from fm_of hk] at a1
  rw [show g.m.g k = fb (g.g k) from fm_of hk] at a2
  rw [show g.m.h k = fb (g.h k) from fm_of hk] at a3
  exact ⟨zero_of_feq a1 (h32.bc k hk), zero_of_feq a2 (h32.bg k hk), zero_of_feq a3 (h32.bh k hk)⟩
theorem nbit_zero : nbit 0 = 0 := by decide
theorem nbit_minus : nbit 2147483648 = 2147483648 := by decide
theorem run_bits64 (d : Nat) (w : World) : (callFunc 64 #[.float .f64 d]).run Tryd.prog w = .ok (.value (.int .u64 d)) w := by
  rw [run_callFunc_extern (e := Extern.MathFloatBits.float64bits) Tryd.func64 (by kernel_rfl) (by kernel_rfl) (by kernel_rfl) (by kernel_rfl)]
  rfl
set_option maxHeartbeats 400000 in
theorem sign_zero (w : World) : Calls Tryd.prog 54 #[.float .f64 0] w fun e w' => e = .returned (.bool false) ∧ w = w' := by
  have hb := run_bits64 0
  go_enter Tryd.func54, Tryd.ntmps54
  go_wp2_with fail
  go_ret
  exact ⟨rfl, rfl⟩
set_option maxHeartbeats 400000 in
theorem sign_minus (w : World) : Calls Tryd.prog 54 #[.float .f64 9223372036854775808] w fun e w' => e = .returned (.bool true) ∧ w = w' := by
  have hb := run_bits64 9223372036854775808
  go_enter Tryd.func54, Tryd.ntmps54
  go_wp2_with fail
  go_ret
  exact ⟨ret_bool (by decide +kernel), rfl⟩

theorem cv0 : ∀ w : World, (convert 30 74 (.float .f32 0)).run Tryd.prog w = .ok (.float .f64 0) w :=
  fun w => run_convert_float_float w 30 74 .f32 .f64 _ _ (by kernel_rfl) (by kernel_rfl) (by decide +kernel)
theorem cv1 : ∀ w : World, (convert 30 74 (.float .f32 2147483648)).run Tryd.prog w = .ok (.float .f64 9223372036854775808) w :=
  fun w => run_convert_float_float w 30 74 .f32 .f64 _ _ (by kernel_rfl) (by kernel_rfl) (by decide +kernel)

def HmRel (g : G) (w : World) (v6 _v3 _v5 : Value) (wr : World) : Prop := ∃ j : Nat, j ≤ 64 ∧ v6 = .int .i64 j ∧ bareTo g j = true ∧ Below w.heap.size w wr

def InRel (x y z : Nat) (w3 : World) (_v5 v23 : Value) (wr : World) : Prop :=
  ∃ i : Nat, i ≤ 3 ∧ v23 = .int .i64 i ∧ wr = w3 ∧ (1 ≤ i → x = 0) ∧ (2 ≤ i → y = 0) ∧ (3 ≤ i → z = 0)

set_option maxRecDepth 100000 in
set_option maxHeartbeats 1600000 in
theorem hasMinus_any (b o : Nat) (g : G) (w : World) (hok : okI g.m = true) (h32 : g.B32) (hg : GAt w b o g) :
    Calls Tryd.prog 25 #[.pointer (some ⟨b, o, none⟩)] w (RetB (!bareTo g 64) w) := by
  have HG := Lib.hid hg
  have hr := rng_of (sized_of hok)
  have HZ := Lib.hid (fun k (hk : k < 64) (hh : hasB g.wide g.high k = false) => zeros_of hok h32 hk hh)
  clear hg hok h32
  have cv0' := cv0
  have cv1' := cv1
  go_enter Tryd.func25, Tryd.ntmps25
  go_wp2_with fail
  go_loopw [6, 3, 5] (fun v6 v3 v5 wr => HmRel g w v6 v3 v5 wr) (fun v6 _ _ _ => 64 - (intOf v6).toNat)
  case atStart => exact ⟨0, by omega, rfl, rfl, Below.refl _ _⟩
  case round =>
    obtain ⟨j, hj, rfl, hbare, hBB⟩ := hrel
    have HB := Lib.hid hBB
    have HBA := Lib.hid hbare
    clear hBB hbare
    by_cases hlt : j < 64
    · have j1 : (j : Int) < 64 := by omega
      have j0 : (0 : Int) ≤ (j : Int) := by omega
      have HGB := HG.out.below HB.out
      have d0 := HGB.c hlt
      have d1 := HGB.g hlt
      have d2 := HGB.h hlt
      cases hh : hasB g.wide g.high j
      · have HH := Lib.hid hh
        obtain ⟨z1, z2, z3⟩ := HZ.out j hlt hh
        clear hh
        have HZN : Hid (bareTo g (j + 1) = bareAt g j) := by show (bareTo g j && (hasB g.wide g.high j || bareAt g j)) = _; rw [HH.out, HBA.out]; rfl
        have HBad : Hid (bareAt g j = false → bareTo g 64 = false) := fun e => bareTo_bad (HZN.out.trans e) 64 hlt
        have HU : Hid (bareAt g j = ((nbit (g.c j) == 0 && nbit (g.g j) == 0) && nbit (g.h j) == 0)) := rfl
        go_wp2_with fail
        refine (has_any b o j g _ hlt hr HGB).mono ?_
        rw [HH.out]
        rintro e w1 ⟨rfl, rfl⟩
        go_wp2_with fail
        go_region
        generalize hw3 : (wr.alloc (.cells #[.pointer (some ⟨b, o + 2, none⟩), .pointer (some ⟨b, o + 66, none⟩), .pointer (some ⟨b, o + 130, none⟩)] 77)).drew = w3
        have hb3 : Below wr.heap.size wr w3 := by rw [← hw3]; exact below_dr ((Below.refl _ _).alloc (Nat.le_refl _) _)
        have HB3 := Lib.hid (below_next HB.out hb3)
        have HS3 : Blk w3 wr.heap.size #[.pointer (some ⟨b, o + 2, none⟩), .pointer (some ⟨b, o + 66, none⟩), .pointer (some ⟨b, o + 130, none⟩)] 77 := by rw [← hw3]; exact Blk.new wr _ _
        have s0 := HS3.at (i := 0) rfl
        have s1 := HS3.at (i := 1) rfl
        have s2 := HS3.at (i := 2) rfl
        have HG3 := HGB.below hb3
        clear d0 d1 d2
        have d0 := HG3.c hlt
        have d1 := HG3.g hlt
        have d2 := HG3.h hlt
        generalize wr.heap.size = S at *
        clear HS3 hw3 hb3 HG3 HGB
        go_wp2_with fail
        go_loopw [5, 23] (fun v5 v23 wr => InRel (g.c j) (g.g j) (g.h j) w3 v5 v23 wr) (fun _ v23 _ => 3 - (intOf v23).toNat)
        case atStart => exact ⟨0, by omega, rfl, rfl, fun h => absurd h (by omega), fun h => absurd h (by omega), fun h => absurd h (by omega)⟩
        case round =>
          obtain ⟨i, hi, rfl, rfl, i1, i2, i3⟩ := hrel
          by_cases hi3 : i < 3
          · have hii : i = 0 ∨ i = 1 ∨ i = 2 := by omega
            rcases hii with rfl | hii
            · skip
              rcases z1 with zz | zz
              · rw [zz] at d0
                go_wp2_with fail
                refine (sign_zero _).mono ?_
                rintro e w5 ⟨rfl, rfl⟩
                go_wp2_with fail
                go_roundw
                case rel => exact ⟨1, by omega, by go_num, rfl, fun _ => zz, fun h => absurd h (by omega), fun h => absurd h (by omega)⟩
                case measure => simp [intOf]
              · rw [zz] at d0 HU
                go_wp2_with fail
                refine (sign_minus _).mono ?_
                rintro e w5 ⟨rfl, rfl⟩
                go_wp2_with fail
                go_ret
                exact ⟨by rw [HBad.out (by rw [HU.out, nbit_minus]; simp)]; rfl, HB3.out⟩
            rcases hii with rfl | rfl
            · skip
              rcases z2 with zz | zz
              · rw [zz] at d1
                go_wp2_with fail
                refine (sign_zero _).mono ?_
                rintro e w5 ⟨rfl, rfl⟩
                go_wp2_with fail
                go_roundw
                case rel => exact ⟨2, by omega, by go_num, rfl, fun _ => i1 (by omega), fun _ => zz, fun h => absurd h (by omega)⟩
                case measure => simp [intOf]
              · rw [zz] at d1 HU
                go_wp2_with fail
                refine (sign_minus _).mono ?_
                rintro e w5 ⟨rfl, rfl⟩
                go_wp2_with fail
                go_ret
                exact ⟨by rw [HBad.out (by rw [HU.out, nbit_minus]; simp)]; rfl, HB3.out⟩
            · skip
              rcases z3 with zz | zz
              · rw [zz] at d2
                go_wp2_with fail
                refine (sign_zero _).mono ?_
                rintro e w5 ⟨rfl, rfl⟩
                go_wp2_with fail
                go_roundw
                case rel => exact ⟨3, by omega, by go_num, rfl, fun _ => i1 (by omega), fun _ => i2 (by omega), fun _ => zz⟩
                case measure => simp [intOf]
              · rw [zz] at d2 HU
                go_wp2_with fail
                refine (sign_minus _).mono ?_
                rintro e w5 ⟨rfl, rfl⟩
                go_wp2_with fail
                go_ret
                exact ⟨by rw [HBad.out (by rw [HU.out, nbit_minus]; simp)]; rfl, HB3.out⟩
          · have i4 : ¬ (i : Int) < 3 := by omega
            obtain rfl : i = 3 := by omega
            go_wp2_with fail
            go_roundw
            case rel => exact ⟨j + 1, by omega, by go_num, by rw [HZN.out, HU.out, i1 (by omega), i2 (by omega), i3 (by omega)]; decide, HB3.out⟩
            case measure => simp [intOf]; omega
      · have HH := Lib.hid hh
        clear hh
        have HZN : Hid (bareTo g (j + 1) = true) := by show (bareTo g j && (hasB g.wide g.high j || bareAt g j)) = _; rw [HH.out, HBA.out]; rfl
        go_wp2_with fail
        refine (has_any b o j g _ hlt hr HGB).mono ?_
        rw [HH.out]
        rintro e w1 ⟨rfl, rfl⟩
        go_wp2_with fail
        go_roundw
        case rel => exact ⟨j + 1, by omega, by go_num, HZN.out, HB.out⟩
        case measure => simp [intOf]; omega
    · have j1 : ¬ (j : Int) < 64 := by omega
      obtain rfl : j = 64 := by omega
      go_wp2_with fail
      go_ret
      exact ⟨by rw [HBA.out]; rfl, HB.out⟩
end Go.Proofs.YtekemhibnokhcaaDoor
