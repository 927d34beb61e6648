/- The balances of a ground: the program's and the reference's function come to the same. -/
import Derived.Test.YtfcphfdfpjmgiaaSpecBal
namespace Go.Proofs.Ytfcphfdfpjmgiaa
open Go.RowKit

def RetBalsS (m : M) (w : World) (e : Ending) (w' : World) : Prop := ∃ f, e = .returned (.tuple #[.agg (arrF f), .bool (balOk m (cellsM m))]) ∧ (balOk m (cellsM m) = true → fm f = balF m (cellsM m)) ∧ Below w.heap.size w w'

def BalsRelS (m : M) (w1 : World) (B : Nat) (v5 : Value) (wr : World) : Prop :=
  ∃ (k : Nat) (f : Nat → Nat), k ≤ 64 ∧ v5 = .int .i64 k ∧ balOk m (cellsTo m.wide m.high k) = true ∧ fm f = balF m (cellsTo m.wide m.high k) ∧ Blk wr B (arrF f) 27 ∧ w1.grownBy wr (some B)

theorem balF_snoc {m : M} {l : List Nat} {c : Nat} (hc : c < 64) : balF m (l ++ [c]) = upd (balF m l) c (balTo m c 4) := by
  funext i
  unfold balF upd
  by_cases e : i = c
  · subst e; simp [hc]
  · simp [e]
theorem balOk_snoc {m : M} {l : List Nat} {c : Nat} : balOk m (l ++ [c]) = (balOk m l && fin (balTo m c 4)) := by simp [balOk, List.all_append]
theorem balOk_bad {m : M} {k : Nat} (hk : k < 64) (hh : hasB m.wide m.high k = true) (hf : fin (balTo m k 4) = false) : balOk m (cellsM m) = false := by
  unfold balOk cellsM cellsTo
  rw [List.all_eq_false]
  exact ⟨k, List.mem_filter.2 ⟨List.mem_range.2 hk, hh⟩, by rw [hf]; simp⟩

set_option maxRecDepth 100000 in
set_option maxHeartbeats 800000 in
theorem l01Balances_any (b o : Nat) (g : G) (w : World) (hr : g.Rng) (hW : g.wide ≤ 8) (hH : g.high ≤ 8) (hg : GAt w b o g) :
    Calls Try.prog 163 #[.pointer (some ⟨b, o, none⟩)] w (RetBalsS g.m w) := by
  have hbl : b < w.heap.size := block_lt_of_cell (hg 0 (by omega))
  go_enter Try.func163, Try.ntmps163
  go_wp2_with (first | (with_reducible refine wpList_new newF ?_) | (with_reducible refine wpList_zero (zeroF _) ?_) | (with_reducible refine wpList_new newG ?_) | (with_reducible refine wpList_zero (zeroG _) ?_))
  intro A wA hA1 hA2 hA3 hA4
  go_wp2_with (first | (with_reducible refine wpList_new newF ?_) | (with_reducible refine wpList_zero (zeroF _) ?_) | (with_reducible refine wpList_new newG ?_) | (with_reducible refine wpList_zero (zeroG _) ?_))
  intro B wB hB1 hB2 hB3 hB4
  go_wp2_with (refine wpList_putF hB3 rfl rfl ?_)
  intro wC hC1 hC2 hC3
  have hBw : w.heap.size < B := by have := hA4.size; omega
  have hg1 := Lib.hid (((hg.below hA4).below hB4).grown hC3 (by omega))
  have HC2 := Lib.hid hC2
  have hbelow : Below w.heap.size w wC := below_grown (hA4.trans (hB4.mono hA4.size)) hC3 (Nat.le_trans hA4.size hB4.size) (by omega)
  have HBW := Lib.hid hbelow
  have HA3 := Lib.hid ((hA3.later hB4).grown hC3 (by omega))
  have HA1 : A < B := by omega
  clear hg hA3 hA4 hB3 hB4 hC2 hC3 hbelow
  go_wp2_with fail
  go_loopw [5] (fun v5 wr => BalsRelS g.m wC B v5 wr) (fun v5 _ => 64 - (intOf v5).toNat)
  case atStart => exact ⟨0, _, by omega, rfl, rfl, balF_nil _, HC2.out, grown_refl _ _⟩
  case round =>
    obtain ⟨k, f, hk, rfl, hok, hf, hB, hgr⟩ := hrel
    have HOK := Lib.hid hok
    have HF := Lib.hid hf
    have HG := Lib.hid (hg1.out.grown hgr (by omega))
    have HB := Lib.hid hB
    have HGR := Lib.hid hgr
    have HAr := Lib.hid (HA3.out.grown hgr (by omega))
    clear hok hf hB hgr
    by_cases hlt : k < 64
    · have k1 : (k : Int) < 64 := by omega
      cases hh : hasB g.wide g.high k
      · have HH := Lib.hid hh
        clear hh
        go_wp2_with (go_at_call 111; refine (l01Is_any b o k g _ hlt hr HG.out).mono ?_; rw [HH.out]; rintro e w' ⟨rfl, rfl⟩)
        go_roundw
        case rel => exact ⟨k + 1, f, by omega, by go_num, by rw [cellsTo_no (W := (G.m g).wide) (H := (G.m g).high) HH.out]; exact HOK.out, by rw [cellsTo_no (W := (G.m g).wide) (H := (G.m g).high) HH.out]; exact HF.out, HB.out, HGR.out⟩
        case measure => simp [intOf]; omega
      · have HH := Lib.hid hh
        clear hh
        go_wp2_with (go_at_call 111; refine (l01Is_any b o k g _ hlt hr HG.out).mono ?_; rw [HH.out]; rintro e w' ⟨rfl, rfl⟩)
        refine (l01Balance_any b o k g _ hlt hr hW hH HG.out).mono ?_
        rintro e w2 ⟨r, rfl, hrr, hb2⟩
        have HB2 := HB.out.later hb2
        have HRR := Lib.hid hrr
        clear hrr
        go_wp2_with (refine wpList_setF HB2 hlt rfl rfl ?_)
        intro w3 h31 h32 h33
        have hc3 : w3.cell? ⟨B, k, none⟩ = some (.float .f32 r) := h32.at (by rw [arrF_get _ hlt]; simp [upd])
        have H32 := Lib.hid h32
        have HG3 := Lib.hid ((grown_trans (grown_trans HGR.out (grown_below hb2)) h33 : wC.grownBy w3 (some B)))
        have HA4 := Lib.hid ((HAr.out.later hb2).grown h33 (by omega))
        clear h32 hb2 HB2 h33
        cases hfi : fin (balTo g.m k 4)
        · have HFI := Lib.hid hfi
          clear hfi
          go_wp2_with fail
          refine (l01Finite_any r _ w3 HRR.out).mono ?_
          rw [HFI.out]
          rintro e w4 ⟨rfl, hb4⟩
          have HA5 := HA4.out.later hb4
          have HG4 := Lib.hid (grown_trans HG3.out (grown_below hb4))
          clear hb4
          go_wp2_with (first | (with_reducible refine wpList_new newF ?_) | (with_reducible refine wpList_zero (zeroF _) ?_) | (with_reducible refine wpList_new newG ?_) | (with_reducible refine wpList_zero (zeroG _) ?_) | ((with_reducible refine wpList_putF (f := fun _ => 0) HA5 ?_ ?_ ?_); rfl; rfl))
          intro w5 h51 h52 h53
          go_wp2_with fail
          refine ret_cell2 rfl rfl (loadF h52) rfl ⟨fun _ => 0, ?_, ?_, ?_⟩
          · rw [balOk_bad hlt HH.out HFI.out]; rfl
          · rw [balOk_bad hlt HH.out HFI.out]; exact fun h => by cases h
          · exact below_grown (below_grown HBW.out HG4.out HBW.out.size (by omega)) h53 (by have := HBW.out.size; have := HG4.out.size; omega) (by omega)
        · have HFI := Lib.hid hfi
          clear hfi
          go_wp2_with fail
          refine (l01Finite_any r _ w3 HRR.out).mono ?_
          rw [HFI.out]
          rintro e w4 ⟨rfl, hb4⟩
          have HB4 := Lib.hid hb4
          clear hb4
          go_wp2_with fail
          go_roundw
          case rel => exact ⟨k + 1, upd f k r, by omega, by go_num, by rw [cellsTo_yes (W := (G.m g).wide) (H := (G.m g).high) HH.out, balOk_snoc, HOK.out, HFI.out]; rfl, by rw [cellsTo_yes (W := (G.m g).wide) (H := (G.m g).high) HH.out, balF_snoc hlt, fm_upd hlt, HF.out, HRR.out.out], H32.out.later HB4.out, grown_trans HG3.out (grown_below HB4.out)⟩
          case measure => simp [intOf]; omega
    · have hk' : k = 64 := by omega
      have HK := Lib.hid hk'
      clear hk'
      go_wp2_with (first | ((with_reducible refine wpList_getF HB.out ?_ ?_); rfl) | ((with_reducible refine wpList_putF (f := f) HAr.out ?_ ?_ ?_); rfl; rfl))
      intro w3 h31 h32 h33
      go_wp2_with fail
      have e1 : cellsTo (G.m g).wide (G.m g).high k = cellsM g.m := by rw [HK.out]; rfl
      refine ret_cell2 rfl rfl (loadF h32) rfl ⟨f, ?_, ?_, ?_⟩
      · rw [← e1, HOK.out]; rfl
      · exact fun _ => by rw [HF.out, e1]
      · exact below_grown (below_grown HBW.out HGR.out HBW.out.size (by omega)) h33 (by have := HBW.out.size; have := HGR.out.size; omega) (by omega)

def boC (m : M) : Int := if okI m then (if balOk m (cellsM m) then 0 else 4) else 1
def boF (m : M) : Nat → F := if okI m && balOk m (cellsM m) then balF m (cellsM m) else fm (fun _ => 0)
/-- A field and a code are handed back. -/
def RetFC (x : Nat → F) (z : Int) (w : World) (e : Ending) (w' : World) : Prop := ∃ f, e = .returned (.tuple #[.agg (arrF f), .int .i64 z]) ∧ fm f = x ∧ Below w.heap.size w w'

set_option maxRecDepth 100000 in
set_option maxHeartbeats 800000 in
theorem BalancesOf_any (g : G) (w : World) (hr : g.Rng) :
    Calls Try.prog 74 #[.agg (arrG g)] w (RetFC (boF g.m) (boC g.m) w) := by
  cases hok : okI g.m
  · have HOK := Lib.hid hok
    clear hok
    go_enter Try.func74, Try.ntmps74
    go_wp2_with (with_reducible refine wpList_box rfl ?_)
    intro B w1 hB1 hB2 hB3 hB4
    go_wp2_with (first | (with_reducible refine wpList_new newF ?_) | (with_reducible refine wpList_zero (zeroF _) ?_) | (with_reducible refine wpList_new newG ?_) | (with_reducible refine wpList_zero (zeroG _) ?_))
    intro A w2 hA1 hA2 hA3 hA4
    go_wp2_with ((with_reducible refine wpList_getG (hB3.later hA4) ?_ ?_); rfl)
    refine (ValidGround_any g w2 hr).mono ?_
    rw [HOK.out]
    rintro e w3 ⟨rfl, hb3⟩
    have HA3 := hA3.later hb3
    have HB := Lib.hid ((hB4.trans (hA4.mono hB4.size)).trans (hb3.mono (Nat.le_trans hB4.size hA4.size)))
    clear hB3 hB4 hA3 hA4 hb3
    go_wp2_with (first | (with_reducible refine wpList_new newF ?_) | (with_reducible refine wpList_zero (zeroF _) ?_) | (with_reducible refine wpList_new newG ?_) | (with_reducible refine wpList_zero (zeroG _) ?_) | ((with_reducible refine wpList_putF (f := fun _ => 0) HA3 ?_ ?_ ?_); rfl; rfl))
    intro w5 h51 h52 h53
    go_wp2_with fail
    refine ret_cell2 rfl rfl (loadF h52) rfl ⟨fun _ => 0, ?_, ?_, ?_⟩
    · unfold boC; rw [HOK.out]; rfl
    · unfold boF; rw [HOK.out]; rfl
    · exact below_grown HB.out h53 HB.out.size (by omega)
  · have HOK := Lib.hid hok
    have hsz := sized_of hok
    clear hok
    go_enter Try.func74, Try.ntmps74
    go_wp2_with (with_reducible refine wpList_box rfl ?_)
    intro B w1 hB1 hB2 hB3 hB4
    go_wp2_with (first | (with_reducible refine wpList_new newF ?_) | (with_reducible refine wpList_zero (zeroF _) ?_) | (with_reducible refine wpList_new newG ?_) | (with_reducible refine wpList_zero (zeroG _) ?_))
    intro A w2 hA1 hA2 hA3 hA4
    go_wp2_with ((with_reducible refine wpList_getG (hB3.later hA4) ?_ ?_); rfl)
    refine (ValidGround_any g w2 hr).mono ?_
    rw [HOK.out]
    rintro e w3 ⟨rfl, hb3⟩
    have HA3 := hA3.later hb3
    have HG := GAt.of_blk ((hB3.later hA4).later hb3)
    have HB := Lib.hid ((hB4.trans (hA4.mono hB4.size)).trans (hb3.mono (Nat.le_trans hB4.size hA4.size)))
    clear hB3 hB4 hA3 hA4 hb3
    go_wp2_with fail
    refine (balances_any B 0 g w3 hr hsz.1.2 hsz.2.2 HG).mono ?_
    rintro e w4 ⟨f, rfl, hf, hb4⟩
    have HF := Lib.hid hf
    have HA4 := Lib.hid (HA3.later hb4)
    have HB4 := Lib.hid (HB.out.trans (hb4.mono HB.out.size))
    have hAl : A < w4.heap.size := HA4.out.lt
    clear hf HG HA3 hb4
    cases hbo : balOk g.m (cellsM g.m)
    · have HBO := Lib.hid hbo
      clear hbo
      go_wp2_with (first | (with_reducible refine wpList_new newF ?_) | (with_reducible refine wpList_zero (zeroF _) ?_) | (with_reducible refine wpList_new newG ?_) | (with_reducible refine wpList_zero (zeroG _) ?_))
      intro C w5 hC1 hC2 hC3 hC4
      have HA5 := HA4.out.later hC4
      go_wp2_with ((with_reducible refine wpList_putF (f := f) hC3 ?_ ?_ ?_); rfl; rfl)
      intro w6 h61 h62 h63
      have HA6 := HA5.grown h63 (by omega)
      have HB6 := Lib.hid (below_grown (HB4.out.trans (hC4.mono HB4.out.size)) h63 (Nat.le_trans HB4.out.size hC4.size) (by have := HB4.out.size; omega))
      clear hC3 hC4 h63 HA5 h62
      go_wp2_with (first | (with_reducible refine wpList_new newF ?_) | (with_reducible refine wpList_zero (zeroF _) ?_) | (with_reducible refine wpList_new newG ?_) | (with_reducible refine wpList_zero (zeroG _) ?_) | ((with_reducible refine wpList_putF (f := fun _ => 0) HA6 ?_ ?_ ?_); rfl; rfl))
      intro w7 h71 h72 h73
      go_wp2_with fail
      refine ret_cell2 rfl rfl (loadF h72) rfl ⟨fun _ => 0, ?_, ?_, ?_⟩
      · unfold boC; rw [HOK.out, HBO.out]; rfl
      · unfold boF; rw [HOK.out, HBO.out]; rfl
      · exact below_grown HB6.out h73 HB6.out.size (by omega)
    · have HBO := Lib.hid hbo
      clear hbo
      go_wp2_with (first | (with_reducible refine wpList_new newF ?_) | (with_reducible refine wpList_zero (zeroF _) ?_) | (with_reducible refine wpList_new newG ?_) | (with_reducible refine wpList_zero (zeroG _) ?_))
      intro C w5 hC1 hC2 hC3 hC4
      have HA5 := HA4.out.later hC4
      go_wp2_with ((with_reducible refine wpList_putF (f := f) hC3 ?_ ?_ ?_); rfl; rfl)
      intro w6 h61 h62 h63
      have HA6 := HA5.grown h63 (by omega)
      have HB6 := Lib.hid (below_grown (HB4.out.trans (hC4.mono HB4.out.size)) h63 (Nat.le_trans HB4.out.size hC4.size) (by have := HB4.out.size; omega))
      clear hC3 hC4 h63 HA5
      go_wp2_with (first | ((with_reducible refine wpList_getF h62 ?_ ?_); rfl) | ((with_reducible refine wpList_putF (f := f) HA6 ?_ ?_ ?_); rfl; rfl))
      intro w7 h71 h72 h73
      go_wp2_with fail
      refine ret_cell2 rfl rfl (loadF h72) rfl ⟨f, ?_, ?_, ?_⟩
      · unfold boC; rw [HOK.out, HBO.out]; rfl
      · unfold boF; rw [HOK.out, HBO.out]; exact HF.out
      · exact below_grown HB6.out h73 HB6.out.size (by omega)

set_option maxRecDepth 100000 in
set_option maxHeartbeats 800000 in
theorem specBalancesOf_any (g : G) (w : World) (hr : g.Rng) :
    Calls Try.prog 75 #[.agg (arrG g)] w (RetFC (boF g.m) (boC g.m) w) := by
  cases hok : okI g.m
  · have HOK := Lib.hid hok
    clear hok
    go_enter Try.func75, Try.ntmps75
    go_wp2_with (with_reducible refine wpList_box rfl ?_)
    intro B w1 hB1 hB2 hB3 hB4
    go_wp2_with (first | (with_reducible refine wpList_new newF ?_) | (with_reducible refine wpList_zero (zeroF _) ?_) | (with_reducible refine wpList_new newG ?_) | (with_reducible refine wpList_zero (zeroG _) ?_))
    intro A w2 hA1 hA2 hA3 hA4
    have HG := GAt.of_blk (hB3.later hA4)
    go_wp2_with fail
    refine (l01Ok_any B 0 g w2 hr HG).mono ?_
    rw [HOK.out]
    rintro e w3 ⟨rfl, hb3⟩
    have HA3 := hA3.later hb3
    have HB := Lib.hid ((hB4.trans (hA4.mono hB4.size)).trans (hb3.mono (Nat.le_trans hB4.size hA4.size)))
    clear hB3 hB4 hA3 hA4 hb3 HG
    go_wp2_with (first | (with_reducible refine wpList_new newF ?_) | (with_reducible refine wpList_zero (zeroF _) ?_) | (with_reducible refine wpList_new newG ?_) | (with_reducible refine wpList_zero (zeroG _) ?_) | ((with_reducible refine wpList_putF (f := fun _ => 0) HA3 ?_ ?_ ?_); rfl; rfl))
    intro w5 h51 h52 h53
    go_wp2_with fail
    refine ret_cell2 rfl rfl (loadF h52) rfl ⟨fun _ => 0, ?_, ?_, ?_⟩
    · unfold boC; rw [HOK.out]; rfl
    · unfold boF; rw [HOK.out]; rfl
    · exact below_grown HB.out h53 HB.out.size (by omega)
  · have HOK := Lib.hid hok
    have hsz := sized_of hok
    clear hok
    go_enter Try.func75, Try.ntmps75
    go_wp2_with (with_reducible refine wpList_box rfl ?_)
    intro B w1 hB1 hB2 hB3 hB4
    go_wp2_with (first | (with_reducible refine wpList_new newF ?_) | (with_reducible refine wpList_zero (zeroF _) ?_) | (with_reducible refine wpList_new newG ?_) | (with_reducible refine wpList_zero (zeroG _) ?_))
    intro A w2 hA1 hA2 hA3 hA4
    have HG0 := GAt.of_blk (hB3.later hA4)
    go_wp2_with fail
    refine (l01Ok_any B 0 g w2 hr HG0).mono ?_
    rw [HOK.out]
    rintro e w3 ⟨rfl, hb3⟩
    have HA3 := hA3.later hb3
    have HG := HG0.below hb3
    have HB := Lib.hid ((hB4.trans (hA4.mono hB4.size)).trans (hb3.mono (Nat.le_trans hB4.size hA4.size)))
    clear hB3 hB4 hA3 hA4 hb3 HG0
    go_wp2_with fail
    refine (l01Balances_any B 0 g w3 hr hsz.1.2 hsz.2.2 HG).mono ?_
    rintro e w4 ⟨f, rfl, hf, hb4⟩
    have HF := Lib.hid hf
    have HA4 := Lib.hid (HA3.later hb4)
    have HB4 := Lib.hid (HB.out.trans (hb4.mono HB.out.size))
    have hAl : A < w4.heap.size := HA4.out.lt
    clear hf HG HA3 hb4
    cases hbo : balOk g.m (cellsM g.m)
    · have HBO := Lib.hid hbo
      clear hbo
      go_wp2_with (first | (with_reducible refine wpList_new newF ?_) | (with_reducible refine wpList_zero (zeroF _) ?_) | (with_reducible refine wpList_new newG ?_) | (with_reducible refine wpList_zero (zeroG _) ?_))
      intro C w5 hC1 hC2 hC3 hC4
      have HA5 := HA4.out.later hC4
      go_wp2_with ((with_reducible refine wpList_putF (f := f) hC3 ?_ ?_ ?_); rfl; rfl)
      intro w6 h61 h62 h63
      have HA6 := HA5.grown h63 (by omega)
      have HB6 := Lib.hid (below_grown (HB4.out.trans (hC4.mono HB4.out.size)) h63 (Nat.le_trans HB4.out.size hC4.size) (by have := HB4.out.size; omega))
      clear hC3 hC4 h63 HA5 h62
      go_wp2_with (first | (with_reducible refine wpList_new newF ?_) | (with_reducible refine wpList_zero (zeroF _) ?_) | (with_reducible refine wpList_new newG ?_) | (with_reducible refine wpList_zero (zeroG _) ?_) | ((with_reducible refine wpList_putF (f := fun _ => 0) HA6 ?_ ?_ ?_); rfl; rfl))
      intro w7 h71 h72 h73
      go_wp2_with fail
      refine ret_cell2 rfl rfl (loadF h72) rfl ⟨fun _ => 0, ?_, ?_, ?_⟩
      · unfold boC; rw [HOK.out, HBO.out]; rfl
      · unfold boF; rw [HOK.out, HBO.out]; rfl
      · exact below_grown HB6.out h73 HB6.out.size (by omega)
    · have HBO := Lib.hid hbo
      have HF2 := Lib.hid (HF.out hbo)
      clear hbo
      go_wp2_with (first | (with_reducible refine wpList_new newF ?_) | (with_reducible refine wpList_zero (zeroF _) ?_) | (with_reducible refine wpList_new newG ?_) | (with_reducible refine wpList_zero (zeroG _) ?_))
      intro C w5 hC1 hC2 hC3 hC4
      have HA5 := HA4.out.later hC4
      go_wp2_with ((with_reducible refine wpList_putF (f := f) hC3 ?_ ?_ ?_); rfl; rfl)
      intro w6 h61 h62 h63
      have HA6 := HA5.grown h63 (by omega)
      have HB6 := Lib.hid (below_grown (HB4.out.trans (hC4.mono HB4.out.size)) h63 (Nat.le_trans HB4.out.size hC4.size) (by have := HB4.out.size; omega))
      clear hC3 hC4 h63 HA5
      go_wp2_with (first | ((with_reducible refine wpList_getF h62 ?_ ?_); rfl) | ((with_reducible refine wpList_putF (f := f) HA6 ?_ ?_ ?_); rfl; rfl))
      intro w7 h71 h72 h73
      go_wp2_with fail
      refine ret_cell2 rfl rfl (loadF h72) rfl ⟨f, ?_, ?_, ?_⟩
      · unfold boC; rw [HOK.out, HBO.out]; rfl
      · unfold boF; rw [HOK.out, HBO.out]; exact HF2.out
      · exact below_grown HB6.out h73 HB6.out.size (by omega)
end Go.Proofs.Ytfcphfdfpjmgiaa
