/- The text of readings by the program: a strings.Builder. -/
import Derived.Test.YtonmdkhfongmhaaDoorDtxt
namespace Go.Proofs.YtonmdkhfongmhaaDoor
open Go.RowKit

theorem IsB.later {B b : Nat} {bs : List Value} {w w' : World} (h : Lib.IsBuilderF 43 5 B b bs w) (hb : Below w.heap.size w w') : Lib.IsBuilderF 43 5 B b bs w' := by
  have key : ∀ p, Lib.BuilderAtF 43 5 B b p bs w → Lib.BuilderAtF 43 5 B b p bs w' := by
    intro p h
    have hlt := h.lt
    obtain ⟨hB, v, hbk, hown, hne⟩ := h
    refine ⟨hB, v, (hb.block b hlt).trans hbk, ?_, hne⟩
    exact hown.kept (row := none) ⟨hb.os, hb.tape, hb.output, hb.size, fun k hk _ => hb.block k hk⟩ (by cases v.ownBlock <;> simp)
  exact h.elim (fun x => .inl (key _ x)) (fun x => .inr (key _ x))
theorem kept_blk {b g : Nat} {cs : Array Value} {t : TypeId} {w w' : World} (h : Lib.OthersKept 5 (some b) w w') (hb : Blk w g cs t) (hne : g ≠ b) (ht : t ≠ 5) : Blk w' g cs t :=
  h g _ hb (by simpa using hne) (fun c fz e => by injection e with _ e2 _; exact ht e2)
theorem bytes_more (a b : ByteArray) : Lib.byteCells a.data.toList ++ Lib.strCells b = Lib.byteCells (a ++ b).data.toList := by
  rw [Lib.strCells_eq]
  unfold Lib.byteCells
  rw [← List.map_append, ByteArray.data_append, Array.toList_append]
def TyRel (l : List Rd) (w : World) (v9 : Value) (wr : World) : Prop :=
  ∃ j : Nat, j ≤ l.length ∧ v9 = .int .i64 j ∧ Lib.IsBuilderF 43 5 w.heap.size w.heap.size (Lib.byteCells (txtK l j).data.toList) wr ∧ Below w.heap.size w wr

set_option maxRecDepth 100000 in
set_option maxHeartbeats 3200000 in
theorem readingsText_any (v : Value) (l : List Rd) (w : World) (hlen : l.length ≤ 40) (hok : ∀ e ∈ l, 1 ≤ e.t) (hv : RAt w v l) (ht : Tab w) :
    Calls Tryd.prog 13 #[v] w fun e w' => e = .returned (.string (txtK l l.length)) ∧ Below w.heap.size w w' := by
  obtain ⟨aL, cap, rfl, hL⟩ := hv
  have HL := Lib.hid hL
  have HK := Lib.hid hok
  have HT0 := Lib.hid ht
  have HSZ : Hid (∀ k, (txtK l k).size ≤ 42 * k) := by
    show ∀ _, _
    refine txt_size fun e he => ?_
    obtain ⟨j, hj, rfl⟩ := List.getElem_of_mem he
    exact line_size (hL j _ (List.getElem?_eq_getElem hj)).1 (hok _ he)
  clear hL hok ht
  go_enter Tryd.func13, Tryd.ntmps13
  go_wp2_with fail
  go_loopw [9] (fun v9 wr => TyRel l w v9 wr) (fun v9 _ => l.length - (intOf v9).toNat)
  case atStart => exact ⟨0, by omega, rfl, Lib.IsBuilderF.of (Lib.fresh_isBuilder _ _ w), (Below.refl _ _).alloc (Nat.le_refl _) _⟩
  case round =>
    obtain ⟨j, hj, rfl, hI, hBB⟩ := hrel
    have HIB := Lib.hid hI
    have HB := Lib.hid hBB
    clear hI hBB
    by_cases hlt : j < l.length
    · obtain ⟨e, he⟩ : ∃ e, l[j]? = some e := ⟨_, List.getElem?_eq_getElem hlt⟩
      obtain ⟨hrng, gq, rfl, hq⟩ := HL.out j e he
      have HQ := Lib.hid (range_below hq HB.out)
      have HE := Lib.hid he
      have HR := Lib.hid hrng
      have j1 : (j : Int) < (l.length : Int) := by omega
      have hbs := HB.out.size
      clear hq he hrng
      go_wp2_with (first | ((with_reducible refine wpList_gateL ?_); refine wpList_load_mid rfl _ _ rfl gq (j * 2) rfl e.cells _ HQ.out Tryd.underlying32 rfl sizeRd ?_) | (with_reducible refine wpList_new newR ?_))
      intro B wB hB1 hB2 hB3 hB4
      go_wp2_with ((with_reducible refine wpList_gateS ?_); refine wpList_put (cells := #[.int .i64 e.t, .int .i16 e.l]) hB3 sizeRd rfl (by simp [Value.oneCell']) rfl rfl ?_)
      intro w3 s3 b3 k3
      have HW3 := Lib.hid (below_grown hB4 k3 hB4.size hB1)
      have HIB4 := Lib.hid (IsB.later HIB.out HW3.out)
      have HX4 := Lib.hid (below_next HB.out HW3.out)
      have HB3 := Lib.hid b3
      have hbs3 := HX4.out.size
      have hBne : B ≠ w.heap.size := by
        have hlt2 : w.heap.size < wr.heap.size := by rcases HIB.out with h | h <;> exact h.lt
        omega
      clear hB3 hB4 k3 s3 b3 HW3 HIB
      obtain ⟨⟨t0, t1⟩, l0, l1⟩ := HR.out
      have hp1 := HK.out e (List.mem_of_getElem? HE.out)
      have t2 : -9223372036854775807 ≤ e.t := by omega
      have l2 : -9223372036854775807 ≤ e.l := by omega
      have l3 : e.l ≤ 9223372036854775807 := by omega
      have l4 : -9223372036854775808 ≤ e.l := by omega
      have wl : IntKind.i64.wrap e.l = e.l := by simp only [IntKind.wrap, IntKind.bits, IntKind.signed]; simp; omega
      have HT : Hid (∀ w', Below w.heap.size w w' → Tab w') := fun w' hb => HT0.out.later hb
      have HSS : Hid (∀ w', Below w3.heap.size w3 w' → w'.cell? ⟨B, 0, none⟩ = some (.int .i64 e.t) ∧ w'.cell? ⟨B, 1, none⟩ = some (.int .i16 e.l)) :=
        fun w' hb => ⟨(HB3.out.later hb).at rfl, (HB3.out.later hb).at rfl⟩
      have HM : Hid (txtK l j ++ (itoS e.t ++ ⟨#[32]⟩ ++ itoS e.l ++ ⟨#[10]⟩) = txtK l (j + 1)) := by
        show _ = _
        rw [txtK_more HE.out]
        rfl
      have HLN : Hid ((Lib.byteCells (txtK l j).data.toList).length ≤ 1680) := by
        show _ ≤ _
        rw [Lib.byteCells_length, Array.length_toList]
        have := HSZ.out j
        have e2 : (txtK l j).size = (txtK l j).data.size := rfl
        omega
      have z1 := itoS_size t2 t1
      have z2 := itoS_size l2 l3
      generalize hD : itoS e.t = D at *
      generalize hI : itoS e.l = I at *
      have HD := Lib.hid hD
      have HI := Lib.hid hI
      obtain ⟨S1, e1⟩ : ∃ S, D ++ (⟨#[32]⟩ : ByteArray) = S := ⟨_, rfl⟩
      obtain ⟨S2, e2⟩ : ∃ S, S1 ++ I = S := ⟨_, rfl⟩
      obtain ⟨S3, e3⟩ : ∃ S, S2 ++ (⟨#[10]⟩ : ByteArray) = S := ⟨_, rfl⟩
      have y1 : S1.size ≤ 21 := by rw [← e1, ByteArray.size_append, s32]; omega
      have y2 : S2.size ≤ 41 := by rw [← e2, ByteArray.size_append]; omega
      have y3 : S3.size ≤ 42 := by rw [← e3, ByteArray.size_append, s10]; omega
      have r1 := str_add e1 (by rw [s32]; omega)
      have r2 := str_add e2 (by omega)
      have r3 := str_add e3 (by rw [s10]; omega)
      have HM2 : Hid (txtK l j ++ S3 = txtK l (j + 1)) := by show _ = _; rw [← HM.out, ← e3, ← e2, ← e1]
      have HY := Lib.hid y3
      clear e1 e2 e3 y1 y2 y3 HM hD hI z1 z2 hp1 t2 l0 l1
      obtain ⟨c0, c1⟩ := HSS.out w3 (Below.refl _ _)
      go_wp2_with fail
      go_region_held3 (fun w' => w'.cell? ⟨B, 0, none⟩ = some (.int .i64 e.t) ∧ w'.cell? ⟨B, 1, none⟩ = some (.int .i16 e.l)) (first | exact ⟨c0, c1⟩ | exact HSS.out _ (below_next (below_drew (Below.refl w3.heap.size w3)) hb5) | exact HSS.out _ (below_next (below_next (below_drew (Below.refl w3.heap.size w3)) hb5) hb6) | exact ⟨hB7.at rfl, hB7.at rfl⟩ | go_keep) (first | (go_at_call 20; refine (decimal_any e.t t0 t1 _ (HT.out _ (below_drew HX4.out))).mono ?_; rintro e5 w5 ⟨rfl, hb5⟩; rw [HD.out]) | (go_at_call 20; refine (decimal_any e.l l4 l3 _ (HT.out _ (below_next (below_drew HX4.out) hb5))).mono ?_; rintro e6 w6 ⟨rfl, hb6⟩; rw [HI.out]) | (go_at_call 19; refine (WriteString_any w.heap.size w.heap.size _ S3 _ (IsB.later (IsB.later (IsB.later HIB4.out (below_drew (Below.refl w3.heap.size w3))) hb5) hb6) (Nat.le_trans (Nat.add_le_add HLN.out HY.out) (by decide)) (Nat.le_trans hbs3 (Nat.le_trans hb5.size hb6.size))).mono ?_; rintro e7 w7 ⟨rfl, h7, b7, k7⟩; have hB7 := kept_blk k7 ((HB3.out.later (below_drew (Below.refl w3.heap.size w3))).later (below_next hb5 hb6)) hBne (by decide)))
      have HY7 : Hid (Lib.IsBuilderF 43 5 w.heap.size w.heap.size (Lib.byteCells (txtK l (j + 1)).data.toList) w7) := by
        have h8 := Or.inr (a := Lib.BuilderAtF 43 5 w.heap.size w.heap.size (.pointer none) (Lib.byteCells (txtK l j).data.toList ++ Lib.strCells S3) w7) h7
        rw [bytes_more, HM2.out] at h8
        exact h8
      have HX7 := Lib.hid ((below_next (below_next (below_drew HX4.out) hb5) hb6).trans b7)
      clear h7 b7 k7 hB7 hb5 hb6
      go_wp2_with fail
      go_roundw
      case rel => exact ⟨j + 1, by omega, by go_num, HY7.out, HX7.out⟩
      case measure => simp [intOf]; omega
    · have j1 : ¬ (j : Int) < (l.length : Int) := by omega
      obtain rfl : j = l.length := by omega
      go_wp2_with (go_at_call 21; refine (Tryd.Builder_String_any_k _ _ _ _ HIB.out HB.out.size).mono ?_; rintro e w1 ⟨rfl, h1, h2, h3⟩)
      go_ret
      exact ⟨rfl, HB.out.trans h2⟩
end Go.Proofs.YtonmdkhfongmhaaDoor
