/- The text of wells, by the program and by the reference. -/
import Derived.Test.YtekemhibnokhcaaDoorDcom
import Derived.Test.YtekemhibnokhcaaDoorDhx2
import Derived.Test.YtekemhibnokhcaaDoorWlist
import Derived.Deep.RegionHeld3
namespace Go.Proofs.YtekemhibnokhcaaDoor
open Go.RowKit

/-- A well's line. -/
def lineW (e : We) : ByteArray := itoS e.x ++ ⟨#[32]⟩ ++ itoS e.y ++ ⟨#[32]⟩ ++ hexS (nbit e.r) ++ ⟨#[10]⟩
/-- The lines of the first wells. -/
def txtW (l : List We) : Nat → ByteArray
  | 0 => ⟨#[]⟩
  | k + 1 => match l[k]? with
    | some e => txtW l k ++ lineW e
    | none => txtW l k
theorem txtW_more {l : List We} {k : Nat} {e : We} (h : l[k]? = some e) : txtW l (k + 1) = txtW l k ++ lineW e := by
  show (match l[k]? with | some e => txtW l k ++ lineW e | none => txtW l k) = _
  rw [h]
theorem lineW_size {e : We} (h : e.Rng) : (lineW e).size ≤ 51 := by
  obtain ⟨⟨a1, a2⟩, b1, b2⟩ := h
  unfold lineW
  have h3 := itoS_size (n := e.x) (by omega) (by omega)
  have h4 := itoS_size (n := e.y) (by omega) (by omega)
  have h5 := hexS_size (nbit e.r)
  simp only [ByteArray.size_append, s32, s10]
  omega
theorem txtW_size {l : List We} (hl : ∀ e ∈ l, e.Rng) : ∀ k, (txtW l k).size ≤ 51 * k
  | 0 => Nat.le_refl _
  | k + 1 => by
    have := txtW_size hl k
    cases h : l[k]? with
    | none => rw [show txtW l (k + 1) = txtW l k by show (match l[k]? with | some e => txtW l k ++ lineW e | none => txtW l k) = _; rw [h]]; omega
    | some e =>
      rw [txtW_more h, ByteArray.size_append]
      have := lineW_size (hl e (List.mem_of_getElem? h))
      omega
theorem zwell (w : World) : (Instr.alloc 43 true (.tuple #[])).run Tryd.prog w = .ok (.pointer (some ⟨w.heap.size, 0, none⟩)) (w.alloc (.cells #[.int .i8 0, .int .i8 0, .float .f32 0] 43)) := by kernel_rfl

def TwRel (l : List We) (w : World) (v3 v4 : Value) (wr : World) : Prop := ∃ j : Nat, j ≤ l.length ∧ v4 = .int .i64 j ∧ v3 = .string (txtW l j) ∧ Below w.heap.size w wr
def TvRel (l : List We) (w : World) (v9 : Value) (wr : World) : Prop :=
  ∃ j : Nat, j ≤ l.length ∧ v9 = .int .i64 j ∧ Lib.IsBuilderF 57 5 w.heap.size w.heap.size (Lib.byteCells (txtW l j).data.toList) wr ∧ Below w.heap.size w wr

set_option maxRecDepth 100000 in
set_option maxHeartbeats 3200000 in
theorem wellsText_any (v : Value) (l : List We) (w : World) (hlen : l.length ≤ 12) (h32 : ∀ e ∈ l, e.r < 4294967296) (hv : WAt w v l) (ht : Tab w) (hz : TabZ w) :
    Calls Tryd.prog 18 #[v] w fun e w' => e = .returned (.string (txtW l l.length)) ∧ Below w.heap.size w w' := by
  obtain ⟨aL, cap, rfl, hL⟩ := hv
  have HL := Lib.hid hL
  have H32 := Lib.hid h32
  have HT0 := Lib.hid ht
  have HZ0 := Lib.hid hz
  have HSZ : Hid (∀ k, (txtW l k).size ≤ 51 * k) := by
    show ∀ _, _
    refine txtW_size fun e he => ?_
    obtain ⟨j, hj, rfl⟩ := List.getElem_of_mem he
    exact (hL j _ (List.getElem?_eq_getElem hj)).1
  clear hL h32 ht hz
  go_enter Tryd.func18, Tryd.ntmps18
  go_wp2_with fail
  go_loopw [9] (fun v9 wr => TvRel l w v9 wr) (fun v9 _ => l.length - (intOf v9).toNat)
  case atStart => exact ⟨0, by omega, rfl, Lib.IsBuilderF.of (Lib.fresh_isBuilder _ _ w), (Below.refl _ _).alloc (Nat.le_refl _) _⟩
  case round =>
    obtain ⟨j, hj, rfl, hI, hBB⟩ := hrel
    have HIB := Lib.hid hI
    have HB := Lib.hid hBB
    clear hI hBB
    by_cases hlt : j < l.length
    · obtain ⟨e, he⟩ : ∃ e, l[j]? = some e := ⟨_, List.getElem?_eq_getElem hlt⟩
      obtain ⟨hrng, gq, rfl, hq⟩ := HL.out j e he
      have HQ := Lib.hid (range_below hq HB.out)
      have HE := Lib.hid he
      have HR := Lib.hid hrng
      have j1 : (j : Int) < (l.length : Int) := by omega
      have hbs := HB.out.size
      clear hq he hrng
      go_wp2_with (first | ((with_reducible refine wpList_gateL ?_); refine wpList_load_mid rfl _ _ rfl gq (j * 3) rfl e.cells _ HQ.out Tryd.underlying43 rfl sizeWell ?_) | (with_reducible refine wpList_new zwell ?_))
      intro B wB hB1 hB2 hB3 hB4
      go_wp2_with ((with_reducible refine wpList_gateS ?_); refine wpList_put (cells := #[.int .i8 e.x, .int .i8 e.y, .float .f32 e.r]) hB3 sizeWell rfl (by simp [Value.oneCell']) rfl rfl ?_)
      intro w3 s3 b3 k3
      have HW3 := Lib.hid (below_grown hB4 k3 hB4.size hB1)
      have HIB4 := Lib.hid (IsB.later HIB.out HW3.out)
      have HX4 := Lib.hid (below_next HB.out HW3.out)
      have HB3 := Lib.hid b3
      have hbs3 := HX4.out.size
      have hBne : B ≠ w.heap.size := by
        have hlt2 : w.heap.size < wr.heap.size := by rcases HIB.out with h | h <;> exact h.lt
        omega
      clear hB3 hB4 k3 s3 b3 HW3 HIB
      obtain ⟨⟨x0, x1⟩, y0, y1⟩ := HR.out
      have x2 : -9223372036854775807 ≤ e.x := by omega
      have x3 : -9223372036854775808 ≤ e.x := by omega
      have x4 : e.x ≤ 9223372036854775807 := by omega
      have y2 : -9223372036854775807 ≤ e.y := by omega
      have y3 : -9223372036854775808 ≤ e.y := by omega
      have y4 : e.y ≤ 9223372036854775807 := by omega
      have wx : IntKind.i64.wrap e.x = e.x := by simp only [IntKind.wrap, IntKind.bits, IntKind.signed]; simp; omega
      have wy : IntKind.i64.wrap e.y = e.y := by simp only [IntKind.wrap, IntKind.bits, IntKind.signed]; simp; omega
      have hr32 := H32.out e (List.mem_of_getElem? HE.out)
      have HT : Hid (∀ w', Below w.heap.size w w' → Tab w') := fun w' hb => HT0.out.later hb
      have HZ : Hid (∀ w', Below w.heap.size w w' → TabZ w') := fun w' hb => tabs_later HZ0.out hb
      have HSS : Hid (∀ w', Below w3.heap.size w3 w' → w'.cell? ⟨B, 0, none⟩ = some (.int .i8 e.x) ∧ w'.cell? ⟨B, 1, none⟩ = some (.int .i8 e.y) ∧ w'.cell? ⟨B, 2, none⟩ = some (.float .f32 e.r)) :=
        fun w' hb => ⟨(HB3.out.later hb).at rfl, (HB3.out.later hb).at rfl, (HB3.out.later hb).at rfl⟩
      have HM : Hid (txtW l j ++ (itoS e.x ++ ⟨#[32]⟩ ++ itoS e.y ++ ⟨#[32]⟩ ++ hexS (nbit e.r) ++ ⟨#[10]⟩) = txtW l (j + 1)) := by
        show _ = _
        rw [txtW_more HE.out]
        rfl
      have HLN : Hid ((Lib.byteCells (txtW l j).data.toList).length ≤ 612) := by
        show _ ≤ _
        rw [Lib.byteCells_length, Array.length_toList]
        have := HSZ.out j
        have e2 : (txtW l j).size = (txtW l j).data.size := rfl
        omega
      have z1 := itoS_size x2 x4
      have z2 := itoS_size y2 y4
      have z3 := hexS_size (nbit e.r)
      generalize hD : itoS e.x = D at *
      generalize hI : itoS e.y = I at *
      generalize hX : hexS (nbit e.r) = X at *
      have HCX : Hid (∀ w', Tab w' → Calls Tryd.prog 27 #[.int .i64 e.x] w' fun e w'' => e = .returned (.string D) ∧ Below w'.heap.size w' w'') := fun w' h => by rw [← hD]; exact decimal_any e.x x3 x4 w' h
      have HCY : Hid (∀ w', Tab w' → Calls Tryd.prog 27 #[.int .i64 e.y] w' fun e w'' => e = .returned (.string I) ∧ Below w'.heap.size w' w'') := fun w' h => by rw [← hI]; exact decimal_any e.y y3 y4 w' h
      have HCR : Hid (∀ w', TabZ w' → Calls Tryd.prog 31 #[.float .f32 e.r] w' fun e w'' => e = .returned (.string X) ∧ Below w'.heap.size w' w'') := fun w' h => by rw [← hX]; exact NumberText_any e.r hr32 w' h
      obtain ⟨S1, e1⟩ : ∃ S, D ++ (⟨#[32]⟩ : ByteArray) = S := ⟨_, rfl⟩
      obtain ⟨S2, e2⟩ : ∃ S, S1 ++ I = S := ⟨_, rfl⟩
      obtain ⟨S3, e3⟩ : ∃ S, S2 ++ (⟨#[32]⟩ : ByteArray) = S := ⟨_, rfl⟩
      obtain ⟨S4, e4⟩ : ∃ S, S3 ++ X = S := ⟨_, rfl⟩
      obtain ⟨S5, e5⟩ : ∃ S, S4 ++ (⟨#[10]⟩ : ByteArray) = S := ⟨_, rfl⟩
      have q1 : S1.size ≤ 21 := by rw [← e1, ByteArray.size_append, s32]; omega
      have q2 : S2.size ≤ 41 := by rw [← e2, ByteArray.size_append]; omega
      have q3 : S3.size ≤ 42 := by rw [← e3, ByteArray.size_append, s32]; omega
      have q4 : S4.size ≤ 50 := by rw [← e4, ByteArray.size_append]; omega
      have q5 : S5.size ≤ 51 := by rw [← e5, ByteArray.size_append, s10]; omega
      have r1 := str_add e1 (by rw [s32]; omega)
      have r2 := str_add e2 (by omega)
      have r3 := str_add e3 (by rw [s32]; omega)
      have r4 := str_add e4 (by omega)
      have r5 := str_add e5 (by rw [s10]; omega)
      have HM2 : Hid (txtW l j ++ S5 = txtW l (j + 1)) := by show _ = _; rw [← HM.out, ← e5, ← e4, ← e3, ← e2, ← e1]
      have HY := Lib.hid q5
      clear e1 e2 e3 e4 e5 q1 q2 q3 q4 q5 HM hD hI hX z1 z2 z3 x0 x1 y0 y1 x2 x3 x4 y2 y3 y4 hr32
      obtain ⟨c0, c1, c2⟩ := HSS.out w3 (Below.refl _ _)
      go_wp2_with fail
      go_region_held3 (fun w' => w'.cell? ⟨B, 0, none⟩ = some (.int .i8 e.x) ∧ w'.cell? ⟨B, 1, none⟩ = some (.int .i8 e.y) ∧ w'.cell? ⟨B, 2, none⟩ = some (.float .f32 e.r)) (first | exact ⟨c0, c1, c2⟩ | exact HSS.out _ (below_next (below_dr (Below.refl w3.heap.size w3)) hb5) | exact HSS.out _ (below_next (below_next (below_dr (Below.refl w3.heap.size w3)) hb5) hb6) | exact HSS.out _ (below_next (below_next (below_next (below_dr (Below.refl w3.heap.size w3)) hb5) hb6) hb8) | exact ⟨hB7.at rfl, hB7.at rfl, hB7.at rfl⟩ | go_keep) (first | (go_at_call 27; (with_reducible refine (HCX.out _ (HT.out _ (below_dr HX4.out))).mono ?_); rintro e5 w5 ⟨rfl, hb5⟩) | (go_at_call 27; (with_reducible refine (HCY.out _ (HT.out _ (below_next (below_dr HX4.out) hb5))).mono ?_); rintro e6 w6 ⟨rfl, hb6⟩) | (go_at_call 31; (with_reducible refine (HCR.out _ (HZ.out _ (below_next (below_next (below_dr HX4.out) hb5) hb6))).mono ?_); rintro e8 w8 ⟨rfl, hb8⟩) | (go_at_call 26; refine (WriteString_any w.heap.size w.heap.size _ S5 _ (IsB.later (IsB.later (IsB.later (IsB.later HIB4.out (below_dr (Below.refl w3.heap.size w3))) hb5) hb6) hb8) (Nat.le_trans (Nat.add_le_add HLN.out HY.out) (by decide)) (Nat.le_trans hbs3 (Nat.le_trans hb5.size (Nat.le_trans hb6.size hb8.size)))).mono ?_; rintro e7 w7 ⟨rfl, h7, b7, k7⟩; have hB7 := kept_blk k7 ((HB3.out.later (below_dr (Below.refl w3.heap.size w3))).later (below_next (below_next hb5 hb6) hb8)) hBne (by decide)))
      have HY7 : Hid (Lib.IsBuilderF 57 5 w.heap.size w.heap.size (Lib.byteCells (txtW l (j + 1)).data.toList) w7) := by
        have h8 := Or.inr (a := Lib.BuilderAtF 57 5 w.heap.size w.heap.size (.pointer none) (Lib.byteCells (txtW l j).data.toList ++ Lib.strCells S5) w7) h7
        rw [bytes_more, HM2.out] at h8
        exact h8
      have HX7 := Lib.hid ((below_next (below_next (below_next (below_dr HX4.out) hb5) hb6) hb8).trans b7)
      clear h7 b7 k7 hB7 hb5 hb6 hb8
      go_wp2_with fail
      go_roundw
      case rel => exact ⟨j + 1, by omega, by go_num, HY7.out, HX7.out⟩
      case measure => simp [intOf]; omega
    · have j1 : ¬ (j : Int) < (l.length : Int) := by omega
      obtain rfl : j = l.length := by omega
      go_wp2_with (go_at_call 32; refine (Tryd.Builder_String_any_k _ _ _ _ HIB.out HB.out.size).mono ?_; rintro e w1 ⟨rfl, h1, h2, h3⟩)
      go_ret
      exact ⟨rfl, HB.out.trans h2⟩
end Go.Proofs.YtekemhibnokhcaaDoor
