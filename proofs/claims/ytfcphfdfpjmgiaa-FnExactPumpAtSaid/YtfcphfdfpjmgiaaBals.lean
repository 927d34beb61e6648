/- The balances of all cells. -/
import Derived.Test.YtfcphfdfpjmgiaaCells
namespace Go.Proofs.Ytfcphfdfpjmgiaa
open Go.RowKit

def fin (x : F) : Bool := feq (fsub x x) (some 0)

/-- A bool is handed back; the world is as it was, but for draws and new memory. -/
def RetB (x : Bool) (w : World) (e : Ending) (w' : World) : Prop := e = .returned (.bool x) ∧ Below w.heap.size w w'

set_option maxHeartbeats 400000 in
theorem finite_any (a : Nat) (x : F) (w : World) (ha : Is a x) :
    Calls Try.prog 108 #[.float .f32 a] w (RetB (fin x) w) := by
  have heq := order_eq
  have HA := Lib.hid ha
  clear ha
  go_enter Try.func108, Try.ntmps108
  go_wp2_with (refine wpList_arith _ _ rfl rfl rfl ?_; intro r n hr)
  go_ret
  refine ⟨ret_bool ?_, below_drawn (Below.refl _ _) _⟩
  have := hr.out
  rw [this, fop, HA.out.out, fb0]
  rfl

/-- A list of whole numbers in memory. -/
theorem list_form {w : World} {base : Nat} {v : Value} {l : List Nat} (h : w.ownsRow base 3 1 v l.length (ints l)) :
    ∃ a cap, v = .slice a l.length cap ∧ ∀ (j c : Nat), l[j]? = some c → ∃ gq, a = some ⟨gq, 0, none⟩ ∧ base ≤ gq ∧ gq < w.heap.size ∧ w.cell? ⟨gq, j, none⟩ = some (.int .i64 c) := by
  obtain ⟨h1, h2 | ⟨g, cap, cur, rfl, hb, hg, _⟩⟩ := h
  · obtain ⟨rfl, h0⟩ := h2
    refine ⟨none, 0, by rw [h0], fun j c hc => ?_⟩
    have : l = [] := List.eq_nil_of_length_eq_zero h0
    subst this; cases hc
  · refine ⟨_, cap, rfl, fun j c hc => ⟨g, rfl, hb, (Array.getElem?_eq_some_iff.1 hg).1, ?_⟩⟩
    have hj : j < l.length := (List.getElem?_eq_some_iff.1 hc).1
    have := World.ownsRow.cellAt (w := w) (base := base) (e := 3) (size := 1) (g := g) (n := l.length) (cap := cap) (xs := ints l) ⟨h1, .inr ⟨g, cap, cur, rfl, hb, hg, ‹_›⟩⟩ j (by omega)
    rw [this]
    simp [ints, hc]

def balF (m : M) (l : List Nat) (i : Nat) : F := if i < 64 then (if i ∈ l then balTo m i 4 else some 0) else none
def balOk (m : M) (l : List Nat) : Bool := l.all fun c => fin (balTo m c 4)
def cellsM (m : M) : List Nat := cellsTo m.wide m.high 64

def RetBals (m : M) (w : World) (e : Ending) (w' : World) : Prop := ∃ f, e = .returned (.tuple #[.agg (arrF f), .bool (balOk m (cellsM m))]) ∧ fm f = balF m (cellsM m) ∧ Below w.heap.size w w'

def BalsRel (m : M) (w1 : World) (B : Nat) (v5 v12 : Value) (wr : World) : Prop :=
  ∃ (j : Nat) (f : Nat → Nat) (ok : Bool), j ≤ (cellsM m).length ∧ v12 = .int .i64 j ∧ v5 = .bool ok ∧ ok = balOk m ((cellsM m).take j) ∧ fm f = balF m ((cellsM m).take j) ∧ Blk wr B (arrF f) 27 ∧ w1.grownBy wr (some B)

theorem take_more {l : List Nat} {j c : Nat} (h : l[j]? = some c) : l.take (j + 1) = l.take j ++ [c] := by
  rw [List.take_add_one, h]; rfl
theorem balF_more {m : M} {l : List Nat} {j c : Nat} (h : l[j]? = some c) (hc : c < 64) : balF m (l.take (j + 1)) = upd (balF m (l.take j)) c (balTo m c 4) := by
  rw [take_more h]
  funext i
  unfold balF upd
  by_cases e : i = c
  · subst e; simp [hc]
  · simp [e]
theorem balOk_more {m : M} {l : List Nat} {j c : Nat} (h : l[j]? = some c) : balOk m (l.take (j + 1)) = (balOk m (l.take j) && fin (balTo m c 4)) := by
  rw [take_more h]; simp [balOk, List.all_append]
theorem balF_nil (m : M) : fm (fun _ => 0) = balF m [] := by
  funext i
  unfold fm balF
  simp [fb0]

theorem GAt.grown {w w' : World} {b o r : Nat} {g : G} (h : GAt w b o g) (hg : w.grownBy w' (some r)) (hne : b ≠ r) : GAt w' b o g := fun i hi => cell_grown (h i hi) hg hne

set_option maxRecDepth 100000 in
set_option maxHeartbeats 800000 in
theorem balances_any (b o : Nat) (g : G) (w : World) (hr : g.Rng) (hW : g.wide ≤ 8) (hH : g.high ≤ 8) (hg : GAt w b o g) :
    Calls Try.prog 162 #[.pointer (some ⟨b, o, none⟩)] w (RetBals g.m w) := by
  have hbl : b < w.heap.size := block_lt_of_cell (hg 0 (by omega))
  go_enter Try.func162, Try.ntmps162
  go_wp2_with (first | (with_reducible refine wpList_new newF ?_) | (with_reducible refine wpList_zero (zeroF _) ?_) | (with_reducible refine wpList_new newG ?_) | (with_reducible refine wpList_zero (zeroG _) ?_))
  intro A wA hA1 hA2 hA3 hA4
  go_wp2_with (first | (with_reducible refine wpList_new newF ?_) | (with_reducible refine wpList_zero (zeroF _) ?_) | (with_reducible refine wpList_new newG ?_) | (with_reducible refine wpList_zero (zeroG _) ?_))
  intro B wB hB1 hB2 hB3 hB4
  go_wp2_with (refine wpList_putF hB3 rfl rfl ?_)
  intro wC hC1 hC2 hC3
  have hBw : w.heap.size < B := by have := hA4.size; omega
  have hgC := ((hg.below hA4).below hB4).grown hC3 (by omega)
  go_wp2_with fail
  refine (cells_any b o g wC hr hgC).mono ?_
  rintro e w1 ⟨v, rfl, hown, hb1⟩
  obtain ⟨aL, cap, rfl, hL⟩ := list_form hown
  have hg1 := Lib.hid (hgC.below hb1)
  have hBl1 := Lib.hid (hC2.later hb1)
  have hbelow : Below w.heap.size w w1 := ((below_grown (hA4.trans (hB4.mono hA4.size)) hC3 (Nat.le_trans hA4.size hB4.size) (by omega))).trans (hb1.mono (by omega))
  have HBW := Lib.hid hbelow
  have HA3 := Lib.hid (((hA3.later hB4).grown hC3 (by omega)).later hb1)
  have HL := Lib.hid hL
  have hsz := hC1
  have HA1 : A < B := by omega
  clear hL hown hgC hg hA3 hA4 hB3 hB4 hC2 hC3 hb1 hbelow
  go_wp2_with fail
  go_loopw [5, 12] (fun v5 v12 wr => BalsRel g.m w1 B v5 v12 wr) (fun _ v12 _ => (cellsM g.m).length - (intOf v12).toNat)
  case atStart => exact ⟨0, _, true, by omega, rfl, rfl, rfl, balF_nil _, hBl1.out, grown_refl _ _⟩
  case round =>
    obtain ⟨j, f, ok, hj, rfl, rfl, hok, hf, hB, hgr⟩ := hrel
    have HOK := Lib.hid hok
    have HF := Lib.hid hf
    have HG := Lib.hid (hg1.out.grown hgr (by omega))
    have HB := Lib.hid hB
    have HGR := Lib.hid hgr
    clear hok hf hB hgr
    by_cases hlt : j < (cellsM g.m).length
    · obtain ⟨c, hc⟩ : ∃ c, (cellsM g.m)[j]? = some c := ⟨_, List.getElem?_eq_getElem hlt⟩
      have hc64 : c < 64 := cellsTo_lt (List.mem_of_getElem? hc)
      have hj64 : j < 64 := Nat.lt_of_lt_of_le hlt (cellsTo_length _ _ _)
      obtain ⟨gq, rfl, hq1, hq2, hq3⟩ := HL.out j c hc
      have hcell := cell_grown hq3 HGR.out (by omega)
      have HC := Lib.hid hc
      have hc64' : (c : Int) < 64 := by omega
      have hlt' : (j : Int) < ((cellsTo g.wide g.high 64).length : Int) := by have : j < (cellsTo g.wide g.high 64).length := hlt; omega
      clear hq3 hc
      go_wp2_with fail
      refine (balance_any b o c g wr hc64 hr hW hH HG.out).mono ?_
      rintro e w2 ⟨r, rfl, hrr, hb2⟩
      have HB2 := HB.out.later hb2
      have HRR := Lib.hid hrr
      clear hrr
      go_wp2_with (refine wpList_setF HB2 hc64 rfl rfl ?_)
      intro w3 h31 h32 h33
      have hc3 : w3.cell? ⟨B, c, none⟩ = some (.float .f32 r) := h32.at (by rw [arrF_get _ hc64]; simp [upd])
      have H32 := Lib.hid h32
      have HG3 := Lib.hid ((grown_trans (grown_trans HGR.out (grown_below hb2)) h33 : w1.grownBy w3 (some B)))
      have HB3 := Lib.hid hb2
      clear h32 hb2 HB2 h33 hcell
      have hfin : fm (upd f c r) = balF g.m ((cellsM g.m).take (j + 1)) := by rw [balF_more HC.out hc64, fm_upd hc64, HF.out, HRR.out.out]
      have HFIN := Lib.hid hfin
      have hoks := balOk_more (m := g.m) HC.out
      rw [← HOK.out] at hoks
      have HOKS := Lib.hid hoks
      clear hfin hoks
      cases ok
      · go_wp2_with fail
        go_roundw
        case rel => exact ⟨j + 1, upd f c r, false, by omega, by go_num, rfl, by rw [HOKS.out]; rfl, HFIN.out, H32.out, HG3.out⟩
        case measure => simp [intOf]; omega
      · go_wp2_with fail
        refine (finite_any r _ w3 HRR.out).mono ?_
        rintro e w4 ⟨rfl, hb4⟩
        have HB4 := Lib.hid hb4
        clear hb4
        go_wp2_with fail
        go_roundw
        case rel => exact ⟨j + 1, upd f c r, _, by omega, by go_num, rfl, by rw [HOKS.out]; rfl, HFIN.out, H32.out.later HB4.out, grown_trans HG3.out (grown_below HB4.out)⟩
        case measure => simp [intOf]; omega
    · have hjn : j = (cellsM g.m).length := by omega
      have hlt' : ¬ (j : Int) < ((cellsTo g.wide g.high 64).length : Int) := by have : ¬ j < (cellsTo g.wide g.high 64).length := hlt; omega
      have HJ := Lib.hid hjn
      clear hjn
      have hA := HA3.out.grown HGR.out (by omega)
      go_wp2_with (first | ((with_reducible refine wpList_getF HB.out ?_ ?_); rfl) | ((with_reducible refine wpList_putF (f := f) hA ?_ ?_ ?_); rfl; rfl))
      intro w3 h31 h32 h33
      go_wp2_with fail
      refine ret_cell2 rfl rfl (loadF h32) rfl ⟨f, ?_, ?_, ?_⟩
      · rw [List.take_of_length_le (Nat.le_of_eq HJ.out.symm)] at HOK
        rw [← HOK.out]; rfl
      · rw [HF.out, List.take_of_length_le (Nat.le_of_eq HJ.out.symm)]
      · exact below_grown (below_grown HBW.out HGR.out HBW.out.size (by omega)) h33 (by have := HBW.out.size; have := HGR.out.size; omega) (by omega)
end Go.Proofs.Ytfcphfdfpjmgiaa
