/- The text of a ground by the reference. -/
import Derived.Test.YtekemhibnokhcaaDoorDfix
import Derived.Deep.RegionHeld3
namespace Go.Proofs.YtekemhibnokhcaaDoor
open Go.RowKit

def wordS (b : Bool) : ByteArray := if b then ⟨#[102, 105, 120, 101, 100]⟩ else ⟨#[102, 114, 101, 101]⟩
theorem wordS_size (b : Bool) : (wordS b).size ≤ 5 := by cases b <;> decide
/-- A cell's line. -/
def lineG (g : G) (k : Nat) : ByteArray := wordS (fixB g.fixed k) ++ ⟨#[32]⟩ ++ hexS (nbit (g.c k)) ++ ⟨#[32]⟩ ++ hexS (nbit (g.g k)) ++ ⟨#[32]⟩ ++ hexS (nbit (g.h k)) ++ ⟨#[10]⟩
def headG (g : G) : ByteArray := itoS g.wide ++ ⟨#[32]⟩ ++ itoS g.high ++ ⟨#[10]⟩
/-- The lines of the first cells. -/
def txtG (g : G) : Nat → ByteArray
  | 0 => headG g
  | k + 1 => if hasB g.wide g.high k then txtG g k ++ lineG g k else txtG g k
theorem txtG_yes {g : G} {k : Nat} (h : hasB g.wide g.high k = true) : txtG g (k + 1) = txtG g k ++ lineG g k := by
  show (if _ then _ else _) = _; rw [h, if_pos rfl]
theorem txtG_no {g : G} {k : Nat} (h : hasB g.wide g.high k = false) : txtG g (k + 1) = txtG g k := by
  show (if _ then _ else _) = _; rw [h]; rfl
theorem lineG_size (g : G) (k : Nat) : (lineG g k).size ≤ 33 := by
  unfold lineG
  have h3 := wordS_size (fixB g.fixed k)
  have h4 := hexS_size (nbit (g.c k))
  have h5 := hexS_size (nbit (g.g k))
  have h6 := hexS_size (nbit (g.h k))
  simp only [ByteArray.size_append, s32, s10]
  omega
theorem headG_size {g : G} (hr : g.Rng) : (headG g).size ≤ 42 := by
  obtain ⟨⟨a1, a2⟩, b1, b2⟩ := hr
  unfold headG
  have h3 := itoS_size (n := g.wide) (by omega) (by omega)
  have h4 := itoS_size (n := g.high) (by omega) (by omega)
  simp only [ByteArray.size_append, s32, s10]
  omega
theorem txtG_size {g : G} (hr : g.Rng) : ∀ k, (txtG g k).size ≤ 42 + 33 * k
  | 0 => headG_size hr
  | k + 1 => by
    have := txtG_size hr k
    cases h : hasB g.wide g.high k with
    | false => rw [txtG_no h]; omega
    | true =>
      rw [txtG_yes h, ByteArray.size_append]
      have := lineG_size g k
      omega

theorem line_adds {P word X1 X2 X3 T : ByteArray} (hw : word.size ≤ 5) (h1 : X1.size = 8) (h2 : X2.size = 8) (h3 : X3.size = 8) (hP : P.size ≤ 4000)
    (hT : P ++ (word ++ (⟨#[32]⟩ : ByteArray) ++ X1 ++ (⟨#[32]⟩ : ByteArray) ++ X2 ++ (⟨#[32]⟩ : ByteArray) ++ X3 ++ (⟨#[10]⟩ : ByteArray)) = T) :
    ∃ S1 S2 S3 S4 S5 S6 S7 : ByteArray, (∀ w : World, (Op.stringOp .add word ⟨#[32]⟩).run Tryd.prog w = .ok (.string S1) w) ∧ (∀ w : World, (Op.stringOp .add S1 X1).run Tryd.prog w = .ok (.string S2) w) ∧
      (∀ w : World, (Op.stringOp .add S2 ⟨#[32]⟩).run Tryd.prog w = .ok (.string S3) w) ∧ (∀ w : World, (Op.stringOp .add S3 X2).run Tryd.prog w = .ok (.string S4) w) ∧ (∀ w : World, (Op.stringOp .add S4 ⟨#[32]⟩).run Tryd.prog w = .ok (.string S5) w) ∧
      (∀ w : World, (Op.stringOp .add S5 X3).run Tryd.prog w = .ok (.string S6) w) ∧ (∀ w : World, (Op.stringOp .add S6 ⟨#[10]⟩).run Tryd.prog w = .ok (.string S7) w) ∧ (∀ w : World, (Op.stringOp .add P S7).run Tryd.prog w = .ok (.string T) w) := by
  obtain ⟨S1, e1⟩ : ∃ S, word ++ (⟨#[32]⟩ : ByteArray) = S := ⟨_, rfl⟩
  obtain ⟨S2, e2⟩ : ∃ S, S1 ++ X1 = S := ⟨_, rfl⟩
  obtain ⟨S3, e3⟩ : ∃ S, S2 ++ (⟨#[32]⟩ : ByteArray) = S := ⟨_, rfl⟩
  obtain ⟨S4, e4⟩ : ∃ S, S3 ++ X2 = S := ⟨_, rfl⟩
  obtain ⟨S5, e5⟩ : ∃ S, S4 ++ (⟨#[32]⟩ : ByteArray) = S := ⟨_, rfl⟩
  obtain ⟨S6, e6⟩ : ∃ S, S5 ++ X3 = S := ⟨_, rfl⟩
  obtain ⟨S7, e7⟩ : ∃ S, S6 ++ (⟨#[10]⟩ : ByteArray) = S := ⟨_, rfl⟩
  have q1 : S1.size ≤ 6 := by rw [← e1, ByteArray.size_append, s32]; omega
  have q2 : S2.size ≤ 14 := by rw [← e2, ByteArray.size_append]; omega
  have q3 : S3.size ≤ 15 := by rw [← e3, ByteArray.size_append, s32]; omega
  have q4 : S4.size ≤ 23 := by rw [← e4, ByteArray.size_append]; omega
  have q5 : S5.size ≤ 24 := by rw [← e5, ByteArray.size_append, s32]; omega
  have q6 : S6.size ≤ 32 := by rw [← e6, ByteArray.size_append]; omega
  have q7 : S7.size ≤ 33 := by rw [← e7, ByteArray.size_append, s10]; omega
  exact ⟨S1, S2, S3, S4, S5, S6, S7, str_add e1 (by rw [s32]; omega), str_add e2 (by omega), str_add e3 (by rw [s32]; omega), str_add e4 (by omega), str_add e5 (by rw [s32]; omega), str_add e6 (by omega), str_add e7 (by rw [s10]; omega),
    str_add (show P ++ S7 = T by rw [← hT, ← e7, ← e6, ← e5, ← e4, ← e3, ← e2, ← e1]) (by omega)⟩

/-- The numbers of a ground are 32 bits wide. -/
structure G.B32 (g : G) : Prop where
  bc : ∀ k, k < 64 → g.c k < 4294967296
  bg : ∀ k, k < 64 → g.g k < 4294967296
  bh : ∀ k, k < 64 → g.h k < 4294967296

def TgRel (g : G) (w : World) (v3 v4 _v5 : Value) (wr : World) : Prop := ∃ j : Nat, j ≤ 64 ∧ v4 = .int .i64 j ∧ v3 = .string (txtG g j) ∧ Below w.heap.size w wr

set_option maxRecDepth 100000 in
set_option maxHeartbeats 3200000 in
theorem l01Text_any (b o : Nat) (g : G) (w : World) (hs : g.Sane) (h32 : g.B32) (hg : GAt w b o g) :
    Calls Tryd.prog 22 #[.pointer (some ⟨b, o, none⟩)] w fun e w' => e = .returned (.string (txtG g 64)) ∧ Below w.heap.size w w' := by
  have HS := Lib.hid hs
  have H32 := Lib.hid h32
  have HG := Lib.hid hg
  have HSZ := Lib.hid (txtG_size hs.rng)
  obtain ⟨⟨x0, x1⟩, y0, y1⟩ := hs.rng
  have lW := hs.lW
  have lH := hs.lH
  have HCW0 : Hid (∀ w', Calls Tryd.prog 45 #[.int .i64 g.wide] w' fun e w'' => e = .returned (.string (itoS g.wide)) ∧ Below w'.heap.size w' w'') := fun w' => by
    have h := Decimal_any g.wide.toNat (by omega) w'
    rw [Int.toNat_of_nonneg (by omega), itoS_pos (by omega)] at h
    exact h
  have HCH0 : Hid (∀ w', Calls Tryd.prog 45 #[.int .i64 g.high] w' fun e w'' => e = .returned (.string (itoS g.high)) ∧ Below w'.heap.size w' w'') := fun w' => by
    have h := Decimal_any g.high.toNat (by omega) w'
    rw [Int.toNat_of_nonneg (by omega), itoS_pos (by omega)] at h
    exact h
  have z1 := itoS_size (n := g.wide) (by omega) (by omega)
  have z2 := itoS_size (n := g.high) (by omega) (by omega)
  have wx : IntKind.i64.wrap g.wide = g.wide := by simp only [IntKind.wrap, IntKind.bits, IntKind.signed]; simp; omega
  have wy : IntKind.i64.wrap g.high = g.high := by simp only [IntKind.wrap, IntKind.bits, IntKind.signed]; simp; omega
  have HSS : Hid (∀ w', Below w.heap.size w w' → w'.cell? ⟨b, o, none⟩ = some (.int .i8 g.wide) ∧ w'.cell? ⟨b, o + 1, none⟩ = some (.int .i8 g.high)) :=
    fun w' hb => ⟨(HG.out.below hb).wide, (HG.out.below hb).high⟩
  obtain ⟨S1, e1⟩ : ∃ S, itoS g.wide ++ (⟨#[32]⟩ : ByteArray) = S := ⟨_, rfl⟩
  obtain ⟨S2, e2⟩ : ∃ S, S1 ++ itoS g.high = S := ⟨_, rfl⟩
  obtain ⟨S3, e3⟩ : ∃ S, S2 ++ (⟨#[10]⟩ : ByteArray) = S := ⟨_, rfl⟩
  have q1 : S1.size ≤ 21 := by rw [← e1, ByteArray.size_append, s32]; omega
  have q2 : S2.size ≤ 41 := by rw [← e2, ByteArray.size_append]; omega
  have r1 := str_add e1 (by rw [s32]; omega)
  have r2 := str_add e2 (by omega)
  have r3 := str_add e3 (by rw [s10]; omega)
  have HM : Hid (S3 = txtG g 0) := by show _ = headG g; unfold headG; rw [← e3, ← e2, ← e1]
  clear e1 e2 e3 q1 q2 hg hs h32 x0 x1 y0 y1 lW lH
  obtain ⟨c0, c1⟩ := HSS.out w (Below.refl _ _)
  generalize hD : itoS g.wide = D at *
  generalize hI : itoS g.high = I at *
  clear hD hI z1 z2
  go_enter Tryd.func22, Tryd.ntmps22
  go_wp2_with fail
  go_region_held3 (fun w' => w'.cell? ⟨b, o, none⟩ = some (.int .i8 g.wide) ∧ w'.cell? ⟨b, o + 1, none⟩ = some (.int .i8 g.high)) (first | exact ⟨c0, c1⟩ | exact HSS.out _ (below_next (below_dr (Below.refl w.heap.size w)) hb5) | exact HSS.out _ (below_next (below_next (below_dr (Below.refl w.heap.size w)) hb5) hb6) | go_keep) (first | (go_at_call 45; (with_reducible refine (HCW0.out _).mono ?_); rintro e5 w5 ⟨rfl, hb5⟩) | (go_at_call 45; (with_reducible refine (HCH0.out _).mono ?_); rintro e6 w6 ⟨rfl, hb6⟩))
  have HX0 := Lib.hid (below_next (below_next (below_dr (Below.refl w.heap.size w)) hb5) hb6)
  clear hb5 hb6
  rw [HM.out]
  go_wp2_with fail
  go_loopw [3, 4, 5] (fun v3 v4 v5 wr => TgRel g w v3 v4 v5 wr) (fun _ v4 _ _ => 64 - (intOf v4).toNat)
  case atStart => exact ⟨0, by omega, rfl, rfl, HX0.out⟩
  case round =>
    obtain ⟨j, hj, rfl, rfl, hBB⟩ := hrel
    have HB := Lib.hid hBB
    clear hBB c0 c1
    by_cases hlt : j < 64
    · have j1 : (j : Int) < 64 := by omega
      have j0 : (0 : Int) ≤ (j : Int) := by omega
      cases hh : hasB g.wide g.high j
      · have HH := Lib.hid hh
        clear hh
        go_wp2_with fail
        refine (l01Is_any b o j g _ hlt HS.out.rng (HG.out.below HB.out)).mono ?_
        rw [HH.out]
        rintro e w1 ⟨rfl, rfl⟩
        go_wp2_with fail
        go_roundw
        case rel => exact ⟨j + 1, by omega, by go_num, by rw [txtG_no HH.out], HB.out⟩
        case measure => simp [intOf]; omega
      · have HH := Lib.hid hh
        clear hh
        go_wp2_with fail
        refine (l01Is_any b o j g _ hlt HS.out.rng (HG.out.below HB.out)).mono ?_
        rw [HH.out]
        rintro e w1 ⟨rfl, rfl⟩
        go_wp2_with fail
        refine (l01Fixed_any b o j g _ hlt HS.out (HG.out.below HB.out)).mono ?_
        rintro e w1 ⟨rfl, rfl⟩
        have z3 := hexS_size (nbit (g.c j))
        have z4 := hexS_size (nbit (g.g j))
        have z5 := hexS_size (nbit (g.h j))
        have z6 := wordS_size (fixB g.fixed j)
        have z7 := HSZ.out j
        have b1 := H32.out.bc j hlt
        have b2 := H32.out.bg j hlt
        have b3 := H32.out.bh j hlt
        have HMM : Hid (txtG g j ++ (wordS (fixB g.fixed j) ++ ⟨#[32]⟩ ++ hexS (nbit (g.c j)) ++ ⟨#[32]⟩ ++ hexS (nbit (g.g j)) ++ ⟨#[32]⟩ ++ hexS (nbit (g.h j)) ++ ⟨#[10]⟩) = txtG g (j + 1)) := by
          show _ = _
          rw [txtG_yes HH.out]
          rfl
        have HSC : Hid (∀ w', Below wr.heap.size wr w' → w'.cell? ⟨b, o + 2 + j, none⟩ = some (.float .f32 (g.c j)) ∧ w'.cell? ⟨b, o + 66 + j, none⟩ = some (.float .f32 (g.g j)) ∧ w'.cell? ⟨b, o + 130 + j, none⟩ = some (.float .f32 (g.h j))) :=
          fun w' hb => ⟨((HG.out.below HB.out).below hb).c hlt, ((HG.out.below HB.out).below hb).g hlt, ((HG.out.below HB.out).below hb).h hlt⟩
        generalize hX1 : hexS (nbit (g.c j)) = X1 at *
        generalize hX2 : hexS (nbit (g.g j)) = X2 at *
        generalize hX3 : hexS (nbit (g.h j)) = X3 at *
        have HC1 : Hid (∀ w', Calls Tryd.prog 47 #[.float .f32 (g.c j)] w' fun e w'' => e = .returned (.string X1) ∧ Below w'.heap.size w' w'') := fun w' => by rw [← hX1]; exact l01Hex_any _ b1 w'
        have HC2 : Hid (∀ w', Calls Tryd.prog 47 #[.float .f32 (g.g j)] w' fun e w'' => e = .returned (.string X2) ∧ Below w'.heap.size w' w'') := fun w' => by rw [← hX2]; exact l01Hex_any _ b2 w'
        have HC3 : Hid (∀ w', Calls Tryd.prog 47 #[.float .f32 (g.h j)] w' fun e w'' => e = .returned (.string X3) ∧ Below w'.heap.size w' w'') := fun w' => by rw [← hX3]; exact l01Hex_any _ b3 w'
        clear hX1 hX2 hX3 b1 b2 b3
        cases hf : fixB g.fixed j
        · rw [hf] at HMM z6
          clear hf
          go_wp2_with fail
          obtain ⟨S4, S5, S6, S7, S8, S9, S10, r4, r5, r6, r7, r8, r9, r10, r11⟩ := line_adds (P := txtG g j) (word := ⟨#[102, 114, 101, 101]⟩) (X1 := X1) (X2 := X2) (X3 := X3) (T := txtG g (j + 1)) z6 z3 z4 z5 (by omega) HMM.out
          obtain ⟨d0, d1, d2⟩ := HSC.out wr (Below.refl _ _)
          clear HMM z3 z4 z5 z6 z7
          go_region_held3 (fun w' => w'.cell? ⟨b, o + 2 + j, none⟩ = some (.float .f32 (g.c j)) ∧ w'.cell? ⟨b, o + 66 + j, none⟩ = some (.float .f32 (g.g j)) ∧ w'.cell? ⟨b, o + 130 + j, none⟩ = some (.float .f32 (g.h j))) (first | exact ⟨d0, d1, d2⟩ | exact HSC.out _ (below_next (below_dr (Below.refl wr.heap.size wr)) hb5) | exact HSC.out _ (below_next (below_next (below_dr (Below.refl wr.heap.size wr)) hb5) hb6) | exact HSC.out _ (below_next (below_next (below_next (below_dr (Below.refl wr.heap.size wr)) hb5) hb6) hb8) | go_keep) (first | (go_at_call 47; (with_reducible refine (HC1.out _).mono ?_); rintro e5 w5 ⟨rfl, hb5⟩) | (go_at_call 47; (with_reducible refine (HC2.out _).mono ?_); rintro e6 w6 ⟨rfl, hb6⟩) | (go_at_call 47; (with_reducible refine (HC3.out _).mono ?_); rintro e8 w8 ⟨rfl, hb8⟩))
          have HX7 := Lib.hid (below_next (below_next (below_next (below_dr HB.out) hb5) hb6) hb8)
          clear hb5 hb6 hb8
          go_wp2_with fail
          go_roundw
          case rel => exact ⟨j + 1, by omega, by go_num, rfl, HX7.out⟩
          case measure => simp [intOf]; omega
        · rw [hf] at HMM z6
          clear hf
          go_wp2_with fail
          obtain ⟨S4, S5, S6, S7, S8, S9, S10, r4, r5, r6, r7, r8, r9, r10, r11⟩ := line_adds (P := txtG g j) (word := ⟨#[102, 105, 120, 101, 100]⟩) (X1 := X1) (X2 := X2) (X3 := X3) (T := txtG g (j + 1)) z6 z3 z4 z5 (by omega) HMM.out
          obtain ⟨d0, d1, d2⟩ := HSC.out wr (Below.refl _ _)
          clear HMM z3 z4 z5 z6 z7
          go_region_held3 (fun w' => w'.cell? ⟨b, o + 2 + j, none⟩ = some (.float .f32 (g.c j)) ∧ w'.cell? ⟨b, o + 66 + j, none⟩ = some (.float .f32 (g.g j)) ∧ w'.cell? ⟨b, o + 130 + j, none⟩ = some (.float .f32 (g.h j))) (first | exact ⟨d0, d1, d2⟩ | exact HSC.out _ (below_next (below_dr (Below.refl wr.heap.size wr)) hb5) | exact HSC.out _ (below_next (below_next (below_dr (Below.refl wr.heap.size wr)) hb5) hb6) | exact HSC.out _ (below_next (below_next (below_next (below_dr (Below.refl wr.heap.size wr)) hb5) hb6) hb8) | go_keep) (first | (go_at_call 47; (with_reducible refine (HC1.out _).mono ?_); rintro e5 w5 ⟨rfl, hb5⟩) | (go_at_call 47; (with_reducible refine (HC2.out _).mono ?_); rintro e6 w6 ⟨rfl, hb6⟩) | (go_at_call 47; (with_reducible refine (HC3.out _).mono ?_); rintro e8 w8 ⟨rfl, hb8⟩))
          have HX7 := Lib.hid (below_next (below_next (below_next (below_dr HB.out) hb5) hb6) hb8)
          clear hb5 hb6 hb8
          go_wp2_with fail
          go_roundw
          case rel => exact ⟨j + 1, by omega, by go_num, rfl, HX7.out⟩
          case measure => simp [intOf]; omega
    · have j1 : ¬ (j : Int) < 64 := by omega
      obtain rfl : j = 64 := by omega
      go_wp2_with fail
      go_ret
      exact ⟨rfl, HB.out⟩
end Go.Proofs.YtekemhibnokhcaaDoor
