/- Readings and sites that are right: both sides. -/
import Derived.Test.YtonmdkhfongmhaaDoorTok
namespace Go.Proofs.YtonmdkhfongmhaaDoor
open Go.RowKit

def tints (l : List Int) : List Value := l.map fun z : Int => .int .i64 z
theorem tints_snoc (l : List Int) (z : Int) : tints (l ++ [z]) = tints l ++ [.int .i64 z] := by simp [tints]
theorem infoT64 : (Tryd.prog.info? 2).map (fun i => (i.zero, i.size, i.bytes)) = some (some (.int .i64 0), 1, 8) := by kernel_rfl
theorem tsat_owned {w : World} {base : Nat} {v : Value} {l : List Int} (h : w.ownsRow base 2 1 v l.length (tints l)) : TsAt w v (fun i => l.getD i 0) l.length := by
  have h' := h
  obtain ⟨h1, h2 | ⟨g, cap, cur, rfl, hb, hg, hn, _⟩⟩ := h
  · obtain ⟨rfl, h0⟩ := h2
    exact ⟨none, 0, by rw [h0], fun j hj => by omega⟩
  · refine ⟨_, cap, rfl, fun j hj => ⟨g, 0, rfl, ?_⟩⟩
    have := World.ownsRow.cellAt (w := w) (base := base) (e := 2) (size := 1) (g := g) (n := l.length) (cap := cap) (xs := tints l) h' j (by omega)
    rw [Nat.zero_add, this]
    simp [tints, List.getD, hj]
def VrRel (l : List Rd) (w : World) (v3 v9 : Value) (wr : World) : Prop :=
  ∃ j : Nat, j ≤ l.length ∧ v9 = .int .i64 j ∧ wr.ownsRow w.heap.size 2 1 v3 j (tints ((l.take j).map Rd.t)) ∧ Below w.heap.size w wr

set_option maxRecDepth 100000 in
set_option maxHeartbeats 1600000 in
theorem ValidReadings_any (v : Value) (l : List Rd) (w : World) (hlen : l.length ≤ 1048576) (hv : RAt w v l) :
    Calls Tryd.prog 12 #[v] w (RetB (okR l) w) := by
  obtain ⟨i0, hi, hz0, hz1, hz2⟩ := info_parts infoT64
  obtain ⟨aL, cap, rfl, hL⟩ := hv
  have HL := Lib.hid hL
  clear hL
  go_enter Tryd.func12, Tryd.ntmps12
  go_wp2_with fail
  go_loopw [3, 9] (fun v3 v9 wr => VrRel l w v3 v9 wr) (fun _ v9 _ => l.length - (intOf v9).toNat)
  case atStart => exact ⟨0, by omega, rfl, World.ownsRow_lit w #[] 0 (Nat.le_refl _) (by simp [maxLen]) rfl, (Below.refl _ _).alloc (Nat.le_refl _) _⟩
  case round =>
    obtain ⟨j, hj, rfl, hown, hB⟩ := hrel
    have HO := Lib.hid hown
    have HB := Lib.hid hB
    clear hown hB
    by_cases hlt : j < l.length
    · obtain ⟨e, he⟩ : ∃ e, l[j]? = some e := ⟨_, List.getElem?_eq_getElem hlt⟩
      obtain ⟨hrng, g, rfl, hq⟩ := HL.out j e he
      have HE := Lib.hid he
      have HQ : Hid (wr.rangeAt g (j * 2) e.cells) := range_below hq HB.out
      have j1 : (j : Int) < (l.length : Int) := by omega
      have hbs := HB.out.size
      clear hq he
      go_wp2_with (first | ((with_reducible refine wpList_gateL ?_); refine wpList_load_mid rfl _ _ rfl g (j * 2) rfl e.cells _ HQ.out Tryd.underlying32 rfl sizeRd ?_) | (with_reducible refine wpList_new newR ?_))
      intro A w3 hA1 hA2 hA3 hA4
      have HO3 := Lib.hid (owns_belowN HO.out hA4)
      have hOl : ∀ q, Value.ownBlock _ = some q → q < wr.heap.size := fun q hq => (HO.out.lt q hq).2
      have HB3 := Lib.hid (below_next HB.out hA4)
      clear hA4
      go_wp2_with ((with_reducible refine wpList_gateS ?_); refine wpList_put (cells := #[.int .i64 e.t, .int .i16 e.l]) hA3 sizeRd rfl (by simp [Value.oneCell']) rfl rfl ?_)
      intro w4 s4 b4 k4
      have HO4 := Lib.hid (owns_farN HO3.out k4 (fun q hq => by have := hOl q hq; omega))
      have HB4 := Lib.hid (below_grown HB3.out k4 HB3.out.size (by omega))
      have c0 : w4.cell? ⟨A, 0, none⟩ = some (.int .i64 e.t) := b4.at rfl
      have hbs4 := HB4.out.size
      clear hA3 s4 b4 k4
      go_wp2_with (at_builtin; refine wpList_append_own _ rfl _ _ 38 rfl w.heap.size 2 i0 (.int .i64 0) 1 8 Tryd.underlying38 hi hz0 hz1 hz2 rfl (by decide) _ _ _ rfl (HO4.out.alloc _) ⟨w4.heap.size, 0, none⟩ 1 1 [.int .i64 e.t] rfl rfl (cell_one_new _ _ _) (by simp [Value.oneCell']) (by unfold maxLen; omega) (by omega) (by simp; omega) ?_)
      intro v' w7 hown7 hgrow _
      have HO7 := Lib.hid hown7
      have HB7 : Hid (Below w.heap.size w w7) := (HB4.out.alloc (by omega) _).grown hgrow (by simp; omega) (fun q hq => (HO4.out.lt q hq).1)
      clear hown7 hgrow c0
      go_wp2_with fail
      go_roundw
      case rel =>
        refine ⟨j + 1, by omega, by go_num, ?_, HB7.out⟩
        rw [take_more' HE.out, List.map_append]
        show w7.ownsRow _ _ 1 v' (j + 1) (tints (_ ++ [e.t]))
        rw [tints_snoc, List.map_take]; exact HO7.out
      case measure => simp [intOf]; omega
    · have j1 : ¬ (j : Int) < (l.length : Int) := by omega
      have ej : j = l.length := by omega
      have HT : Hid (∀ v3, wr.ownsRow w.heap.size 2 1 v3 j (tints ((l.take j).map Rd.t)) → TsAt wr v3 (timeF l) l.length) := by
        intro v3 h1
        rw [List.take_of_length_le (by omega), ej] at h1
        have hl : (l.map Rd.t).length = l.length := by simp
        rw [← hl] at h1
        have h2 := tsat_owned h1
        rw [hl] at h2
        obtain ⟨a, c, e1, h3⟩ := h2
        refine ⟨a, c, e1, fun i hi => ?_⟩
        obtain ⟨g, o, e2, h4⟩ := h3 i hi
        refine ⟨g, o, e2, ?_⟩
        rw [h4]
        simp [timeF, List.getD, hi]
      go_wp2_with fail
      refine (timesOk_any _ (timeF l) l.length wr (by omega) (HT.out _ HO.out)).mono ?_
      rintro e w' ⟨rfl, rfl⟩
      go_wp2_with fail
      go_ret
      exact ⟨rfl, HB.out⟩

def LkRel (l : List Rd) (w : World) (v3 v4 : Value) (wr : World) : Prop :=
  ∃ j : Nat, j ≤ l.length ∧ v4 = .int .i64 j ∧ v3 = .int .i64 (lastT (timeF l) j) ∧ okN (timeF l) j = true ∧ w = wr

set_option maxRecDepth 100000 in
set_option maxHeartbeats 1600000 in
theorem l04Ok_any (v : Value) (l : List Rd) (w : World) (hlen : l.length ≤ 1048576) (hv : RAt w v l) :
    Calls Tryd.prog 9 #[v] w (RetB (okR l) w) := by
  obtain ⟨aL, cap, rfl, hL⟩ := hv
  have HL := Lib.hid hL
  clear hL
  by_cases h40 : l.length ≤ 40
  · have k1 : ¬ (40 : Int) < (l.length : Int) := by omega
    have HR : Hid (okR l = okN (timeF l) l.length) := by show _ = _; unfold okR; rw [decide_eq_true h40]; rfl
    go_enter Tryd.func9, Tryd.ntmps9
    go_wp2_with fail
    go_loopw [3, 4] (fun v3 v4 wr => LkRel l w v3 v4 wr) (fun _ v4 _ => l.length - (intOf v4).toNat)
    case atStart => exact ⟨0, by omega, rfl, rfl, rfl, rfl⟩
    case round =>
      obtain ⟨j, hj, rfl, rfl, hok, rfl⟩ := hrel
      have HOK := Lib.hid hok
      clear hok
      by_cases hlt : j < l.length
      · obtain ⟨e, he⟩ : ∃ e, l[j]? = some e := ⟨_, List.getElem?_eq_getElem hlt⟩
        obtain ⟨hrng, g, rfl, hq⟩ := HL.out j e he
        have c0 : w.cell? ⟨g, j * 2, none⟩ = some (.int .i64 e.t) := hq 0 _ rfl
        have HT := Lib.hid (timeF_at he)
        have j1 : (j : Int) < (l.length : Int) := by omega
        obtain ⟨la, hla⟩ : ∃ la, lastT (timeF l) j = la := ⟨_, rfl⟩
        have hla2 : -9223372036854775808 ≤ la + 1 ∧ la + 1 ≤ 9223372036854775807 := by
          rw [← hla]
          unfold lastT
          by_cases h0 : j = 0
          · rw [if_pos h0]; omega
          · rw [if_neg h0]
            have := okN_pos HOK.out (i := j - 1) (by omega)
            omega
        obtain ⟨la1, la2⟩ := hla2
        have HLA := Lib.hid hla
        rw [hla]
        cases hz : (decide (la + 1 ≤ e.t) && decide (e.t ≤ 100000))
        · have HZ := Lib.hid hz
          have HF : Hid (okN (timeF l) l.length = false) := okN_false hlt (by rw [okAt_iff, HLA.out, HT.out]; exact hz)
          clear hz hq he hla
          go_wp2_with (go_at_call 15; refine (l00In_any _ _ _ _).mono ?_; rw [HZ.out]; rintro e w' ⟨rfl, rfl⟩)
          go_ret
          exact ⟨ret_bool (by rw [HR.out, HF.out]), Below.refl _ _⟩
        · have HZ := Lib.hid hz
          have HF : Hid (okAt (timeF l) j = true) := by show _ = _; rw [okAt_iff, HLA.out, HT.out]; exact hz
          clear hz hq he hla
          go_wp2_with (go_at_call 15; refine (l00In_any _ _ _ _).mono ?_; rw [HZ.out]; rintro e w' ⟨rfl, rfl⟩)
          go_roundw
          case rel => exact ⟨j + 1, by omega, by go_num, by show Value.int .i64 _ = Value.int .i64 (if j + 1 = 0 then 0 else timeF l (j + 1 - 1)); rw [if_neg (by omega), show j + 1 - 1 = j by omega, HT.out], okN_succ HOK.out HF.out, rfl⟩
          case measure => simp [intOf]; omega
      · have j1 : ¬ (j : Int) < (l.length : Int) := by omega
        have ej : j = l.length := by omega
        have HF : Hid (okR l = true) := by show _ = _; rw [HR.out, ← ej]; exact HOK.out
        go_wp2_with fail
        go_ret
        exact ⟨ret_bool (by rw [HF.out]), Below.refl _ _⟩
  · have k1 : (40 : Int) < (l.length : Int) := by omega
    have HR : Hid (okR l = false) := by show _ = _; unfold okR; rw [decide_eq_false h40]; rfl
    go_enter Tryd.func9, Tryd.ntmps9
    go_wp2_with fail
    go_ret
    exact ⟨ret_bool (by rw [HR.out]), Below.refl _ _⟩
end Go.Proofs.YtonmdkhfongmhaaDoor
