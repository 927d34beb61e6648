/- The text of wells by the reference. -/
import Derived.Test.YtekemhibnokhcaaDoorDwtx
namespace Go.Proofs.YtekemhibnokhcaaDoor
open Go.RowKit

set_option maxRecDepth 100000 in
set_option maxHeartbeats 3200000 in
theorem l03Text_any (v : Value) (l : List We) (w : World) (hlen : l.length ≤ 12) (h32 : ∀ e ∈ l, e.r < 4294967296) (hv : WAt w v l) :
    Calls Tryd.prog 14 #[v] w fun e w' => e = .returned (.string (txtW l l.length)) ∧ Below w.heap.size w w' := by
  obtain ⟨aL, cap, rfl, hL⟩ := hv
  have HL := Lib.hid hL
  have H32 := Lib.hid h32
  have HSZ : Hid (∀ k, (txtW l k).size ≤ 51 * k) := by
    show ∀ _, _
    refine txtW_size fun e he => ?_
    obtain ⟨j, hj, rfl⟩ := List.getElem_of_mem he
    exact (hL j _ (List.getElem?_eq_getElem hj)).1
  clear hL h32
  go_enter Tryd.func14, Tryd.ntmps14
  go_wp2_with fail
  go_loopw [3, 4] (fun v3 v4 wr => TwRel l w v3 v4 wr) (fun _ v4 _ => l.length - (intOf v4).toNat)
  case atStart => exact ⟨0, by omega, rfl, rfl, Below.refl _ _⟩
  case round =>
    obtain ⟨j, hj, rfl, rfl, hBB⟩ := hrel
    have HB := Lib.hid hBB
    clear hBB
    by_cases hlt : j < l.length
    · obtain ⟨e, he⟩ : ∃ e, l[j]? = some e := ⟨_, List.getElem?_eq_getElem hlt⟩
      obtain ⟨hrng, gq, rfl, hq⟩ := HL.out j e he
      have HQ := Lib.hid (range_below hq HB.out)
      have HE := Lib.hid he
      have HR := Lib.hid hrng
      have j1 : (j : Int) < (l.length : Int) := by omega
      have hbs := HB.out.size
      clear hq he hrng
      go_wp2_with (first | ((with_reducible refine wpList_gateL ?_); refine wpList_load_mid rfl _ _ rfl gq (j * 3) rfl e.cells _ HQ.out Tryd.underlying43 rfl sizeWell ?_) | (with_reducible refine wpList_new zwell ?_))
      intro B wB hB1 hB2 hB3 hB4
      go_wp2_with ((with_reducible refine wpList_gateS ?_); refine wpList_put (cells := #[.int .i8 e.x, .int .i8 e.y, .float .f32 e.r]) hB3 sizeWell rfl (by simp [Value.oneCell']) rfl rfl ?_)
      intro w3 s3 b3 k3
      have HW3 := Lib.hid (below_grown hB4 k3 hB4.size hB1)
      have HX4 := Lib.hid (below_next HB.out HW3.out)
      have HB3 := Lib.hid b3
      have hbs3 := HX4.out.size
      clear hB3 hB4 k3 s3 b3 HW3
      obtain ⟨⟨x0, x1⟩, y0, y1⟩ := HR.out
      have x2 : -9223372036854775807 ≤ e.x := by omega
      have x3 : -9223372036854775808 ≤ e.x := by omega
      have x4 : e.x ≤ 9223372036854775807 := by omega
      have y2 : -9223372036854775807 ≤ e.y := by omega
      have y3 : -9223372036854775808 ≤ e.y := by omega
      have y4 : e.y ≤ 9223372036854775807 := by omega
      have wx : IntKind.i64.wrap e.x = e.x := by simp only [IntKind.wrap, IntKind.bits, IntKind.signed]; simp; omega
      have wy : IntKind.i64.wrap e.y = e.y := by simp only [IntKind.wrap, IntKind.bits, IntKind.signed]; simp; omega
      have hr32 := H32.out e (List.mem_of_getElem? HE.out)
      have HSS : Hid (∀ w', Below w3.heap.size w3 w' → w'.cell? ⟨B, 0, none⟩ = some (.int .i8 e.x) ∧ w'.cell? ⟨B, 1, none⟩ = some (.int .i8 e.y) ∧ w'.cell? ⟨B, 2, none⟩ = some (.float .f32 e.r)) :=
        fun w' hb => ⟨(HB3.out.later hb).at rfl, (HB3.out.later hb).at rfl, (HB3.out.later hb).at rfl⟩
      have HM : Hid (txtW l j ++ (itoS e.x ++ ⟨#[32]⟩ ++ itoS e.y ++ ⟨#[32]⟩ ++ hexS (nbit e.r) ++ ⟨#[10]⟩) = txtW l (j + 1)) := by
        show _ = _
        rw [txtW_more HE.out]
        rfl
      have z1 := itoS_size x2 x4
      have z2 := itoS_size y2 y4
      have z3 := hexS_size (nbit e.r)
      generalize hD : itoS e.x = D at *
      generalize hI : itoS e.y = I at *
      generalize hX : hexS (nbit e.r) = X at *
      have HCX : Hid (∀ w', Calls Tryd.prog 35 #[.int .i64 e.x] w' fun e w'' => e = .returned (.string D) ∧ Below w'.heap.size w' w'') := fun w' => by rw [← hD]; exact Signed_any e.x x2 x4 w'
      have HCY : Hid (∀ w', Calls Tryd.prog 35 #[.int .i64 e.y] w' fun e w'' => e = .returned (.string I) ∧ Below w'.heap.size w' w'') := fun w' => by rw [← hI]; exact Signed_any e.y y2 y4 w'
      have HCR : Hid (∀ w', Calls Tryd.prog 36 #[.float .f32 e.r] w' fun e w'' => e = .returned (.string X) ∧ Below w'.heap.size w' w'') := fun w' => by rw [← hX]; exact specNumberText_any e.r hr32 w'
      obtain ⟨S1, e1⟩ : ∃ S, D ++ (⟨#[32]⟩ : ByteArray) = S := ⟨_, rfl⟩
      obtain ⟨S2, e2⟩ : ∃ S, S1 ++ I = S := ⟨_, rfl⟩
      obtain ⟨S3, e3⟩ : ∃ S, S2 ++ (⟨#[32]⟩ : ByteArray) = S := ⟨_, rfl⟩
      obtain ⟨S4, e4⟩ : ∃ S, S3 ++ X = S := ⟨_, rfl⟩
      obtain ⟨S5, e5⟩ : ∃ S, S4 ++ (⟨#[10]⟩ : ByteArray) = S := ⟨_, rfl⟩
      have q1 : S1.size ≤ 21 := by rw [← e1, ByteArray.size_append, s32]; omega
      have q2 : S2.size ≤ 41 := by rw [← e2, ByteArray.size_append]; omega
      have q3 : S3.size ≤ 42 := by rw [← e3, ByteArray.size_append, s32]; omega
      have q4 : S4.size ≤ 50 := by rw [← e4, ByteArray.size_append]; omega
      have q5 : S5.size ≤ 51 := by rw [← e5, ByteArray.size_append, s10]; omega
      have r1 := str_add e1 (by rw [s32]; omega)
      have r2 := str_add e2 (by omega)
      have r3 := str_add e3 (by rw [s32]; omega)
      have r4 := str_add e4 (by omega)
      have r5 := str_add e5 (by rw [s10]; omega)
      have z6 := HSZ.out j
      have r6 := str_add (show txtW l j ++ S5 = txtW l (j + 1) by rw [← HM.out, ← e5, ← e4, ← e3, ← e2, ← e1]) (by omega)
      clear e1 e2 e3 e4 e5 q1 q2 q3 q4 q5 HM hD hI hX z1 z2 z3 z6 x0 x1 y0 y1 x2 x3 x4 y2 y3 y4 hr32
      obtain ⟨c0, c1, c2⟩ := HSS.out w3 (Below.refl _ _)
      go_wp2_with fail
      go_region_held3 (fun w' => w'.cell? ⟨B, 0, none⟩ = some (.int .i8 e.x) ∧ w'.cell? ⟨B, 1, none⟩ = some (.int .i8 e.y) ∧ w'.cell? ⟨B, 2, none⟩ = some (.float .f32 e.r)) (first | exact ⟨c0, c1, c2⟩ | exact HSS.out _ (below_next (below_dr (Below.refl w3.heap.size w3)) hb5) | exact HSS.out _ (below_next (below_next (below_dr (Below.refl w3.heap.size w3)) hb5) hb6) | exact HSS.out _ (below_next (below_next (below_next (below_dr (Below.refl w3.heap.size w3)) hb5) hb6) hb8) | go_keep) (first | (go_at_call 35; (with_reducible refine (HCX.out _).mono ?_); rintro e5 w5 ⟨rfl, hb5⟩) | (go_at_call 35; (with_reducible refine (HCY.out _).mono ?_); rintro e6 w6 ⟨rfl, hb6⟩) | (go_at_call 36; (with_reducible refine (HCR.out _).mono ?_); rintro e8 w8 ⟨rfl, hb8⟩))
      have HX7 := Lib.hid (below_next (below_next (below_next (below_dr HX4.out) hb5) hb6) hb8)
      clear hb5 hb6 hb8
      go_wp2_with fail
      go_roundw
      case rel => exact ⟨j + 1, by omega, by go_num, rfl, HX7.out⟩
      case measure => simp [intOf]; omega
    · have j1 : ¬ (j : Int) < (l.length : Int) := by omega
      obtain rfl : j = l.length := by omega
      go_wp2_with fail
      go_ret
      exact ⟨rfl, HB.out⟩
end Go.Proofs.YtekemhibnokhcaaDoor
