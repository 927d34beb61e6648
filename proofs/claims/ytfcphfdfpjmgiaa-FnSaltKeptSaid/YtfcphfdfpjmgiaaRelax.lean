/- A relaxed sweep. -/
import Derived.Test.YtfcphfdfpjmgiaaEqG
namespace Go.Proofs.Ytfcphfdfpjmgiaa
open Go.RowKit

def shareOk (x : F) : Bool := fge x (fb 0) && fle x (fb 1073741824)
theorem share_cases {x : F} (h : ford x (fb 0) ≠ none) : fle x (fb 1073741824) = !fgt x (fb 1073741824) := by
  have h2 : ford x (fb 1073741824) ≠ none := fun hn => h (ford_none (a := 1073741824) (by rw [fb2] at hn; exact hn) (by decide))
  unfold fle flt feq fgt
  cases ho : ford x (fb 1073741824) with
  | none => exact absurd ho h2
  | some o => cases o <;> rfl
theorem share_no {x : F} (h : shareOk x = false) : (fgt x (fb 0) = false ∧ feq x (fb 0) = false) ∨ (fgt x (fb 0) = true ∧ fgt x (fb 1073741824) = true ∧ flt x (fb 1073741824) = false ∧ feq x (fb 1073741824) = false) ∨
    (fgt x (fb 0) = false ∧ feq x (fb 0) = true ∧ fgt x (fb 1073741824) = true ∧ flt x (fb 1073741824) = false ∧ feq x (fb 1073741824) = false) := by
  unfold shareOk fge at h
  cases h1 : fgt x (fb 0) <;> cases h2 : feq x (fb 0) <;> simp [h1, h2] at h ⊢
  all_goals
    have hn : ford x (fb 0) ≠ none := by
      intro hn
      unfold fgt at h1
      unfold feq at h2
      rw [hn] at h1 h2
      simp at h1 h2
    have := share_cases hn
    rw [h] at this
    unfold fle at h
    simp at h this
    exact ⟨this, h⟩
theorem share_yes {x : F} (h : shareOk x = true) : (fgt x (fb 0) = true ∨ (fgt x (fb 0) = false ∧ feq x (fb 0) = true)) ∧ fgt x (fb 1073741824) = false ∧ (flt x (fb 1073741824) = true ∨ (flt x (fb 1073741824) = false ∧ feq x (fb 1073741824) = true)) := by
  unfold shareOk at h
  simp only [Bool.and_eq_true] at h
  obtain ⟨h1, h2⟩ := h
  have hn : ford x (fb 0) ≠ none := by
    intro hn
    unfold fge fgt feq at h1
    rw [hn] at h1
    simp at h1
  have h3 := share_cases hn
  rw [h2] at h3
  refine ⟨?_, by simpa using h3, ?_⟩
  · unfold fge at h1
    cases hg : fgt x (fb 0)
    · rw [hg] at h1; exact .inr ⟨rfl, h1⟩
    · exact .inl rfl
  · unfold fle at h2
    cases hg : flt x (fb 1073741824)
    · rw [hg] at h2; exact .inr ⟨rfl, h2⟩
    · exact .inl rfl

def rlxStep (x : F) (m : M) (c : Nat) : M := if fixB m.fixed c then m else setH m c (fadd (m.h c) (fmul x (fsub (head m c) (m.h c))))
def rlx (m : M) (x : F) (l : List Nat) : M := l.foldl (rlxStep x) m
theorem rlx_snoc (m : M) (x : F) (l : List Nat) (c : Nat) : rlx m x (l ++ [c]) = rlxStep x (rlx m x l) c := by simp [rlx]
theorem rlxStep_fixed {x : F} {m : M} {c : Nat} (h : fixB m.fixed c = true) : rlxStep x m c = m := by unfold rlxStep; rw [h]; rfl
theorem rlxStep_free {x : F} {m : M} {c : Nat} (h : fixB m.fixed c = false) : rlxStep x m c = setH m c (fadd (m.h c) (fmul x (fsub (head m c) (m.h c)))) := by unfold rlxStep; rw [h]; rfl
theorem rlxStep_sane {m : M} (h : m.Sane) (x : F) (c : Nat) : (rlxStep x m c).Sane := by
  unfold rlxStep; split
  · exact h
  · exact setH_sane h _ _
theorem rlx_sane {m : M} (h : m.Sane) (x : F) : ∀ l : List Nat, (rlx m x l).Sane := by
  intro l
  unfold rlx
  induction l generalizing m with
  | nil => exact h
  | cons c l ih => exact ih (rlxStep_sane h x c)
theorem rlx_fixed (m : M) (x : F) : ∀ l : List Nat, (rlx m x l).fixed = m.fixed := by
  intro l
  unfold rlx
  induction l generalizing m with
  | nil => rfl
  | cons c l ih =>
    show (l.foldl _ (rlxStep x m c)).fixed = _
    rw [ih]; unfold rlxStep; split <;> rfl

def rlxM (m : M) (x : F) : M := if okI m then (if shareOk x then swM (rlx m x (cellsM m)) else G0.m) else G0.m
def rlxX (m : M) (x : F) : F := if okI m then (if shareOk x then swX m (rlx m x (cellsM m)) else some 0) else some 0
def rlxC (m : M) (x : F) : Int := if okI m then (if shareOk x then swC (rlx m x (cellsM m)) else 2) else 1

def RlxRel (m : M) (x : F) (l : List Nat) (w1 : World) (B : Nat) (v : Value) (wr : World) : Prop :=
  ∃ (j : Nat) (g : G), j ≤ l.length ∧ v = .int .i64 j ∧ g.m = rlx m x (l.take j) ∧ Blk wr B (arrG g) 30 ∧ w1.grownBy wr (some B)
def RlxRelS (m : M) (x : F) (w1 : World) (B : Nat) (v : Value) (wr : World) : Prop :=
  ∃ (k : Nat) (g : G), k ≤ 64 ∧ v = .int .i64 k ∧ g.m = rlx m x (cellsTo m.wide m.high k) ∧ Blk wr B (arrG g) 30 ∧ w1.grownBy wr (some B)

set_option maxRecDepth 100000 in
set_option maxHeartbeats 3200000 in
theorem RelaxedSweep_any (g : G) (x : Nat) (w : World) (hr : g.Rng) (hx : g.Fx) :
    Calls Try.prog 73 #[.agg (arrG g), .float .f32 x] w (RetGF (rlxM g.m (fb x)) (rlxX g.m (fb x)) (rlxC g.m (fb x)) w) := by
  have hgt := order_gt
  have hlt0 := order_lt
  have heq := order_eq
  cases hok : okI g.m
  · have HOK := Lib.hid hok
    clear hok hx hgt hlt0 heq
    go_enter Try.func73, Try.ntmps73
    go_wp2_with (with_reducible refine wpList_box rfl ?_)
    intro b w1 hB1 hB2 hB3 hB4
    go_wp2_with (first | (with_reducible refine wpList_new newF ?_) | (with_reducible refine wpList_zero (zeroF _) ?_) | (with_reducible refine wpList_new newG ?_) | (with_reducible refine wpList_zero (zeroG _) ?_))
    intro A w2 hA1 hA2 hA3 hA4
    go_wp2_with ((with_reducible refine wpList_getG (hB3.later hA4) ?_ ?_); rfl)
    refine (ValidGround_any g w2 hr).mono ?_
    rw [HOK.out]
    rintro e w3 ⟨rfl, hb3⟩
    have HA3 := hA3.later hb3
    have HB := Lib.hid ((hB4.trans (hA4.mono hB4.size)).trans (hb3.mono (Nat.le_trans hB4.size hA4.size)))
    clear hB3 hB4 hA3 hA4 hb3
    go_wp2_with (first | (with_reducible refine wpList_new newF ?_) | (with_reducible refine wpList_zero (zeroF _) ?_) | (with_reducible refine wpList_new newG ?_) | (with_reducible refine wpList_zero (zeroG _) ?_) | ((with_reducible refine wpList_putG (g := G0) HA3 ?_ ?_ ?_); rfl; rfl))
    intro w5 h51 h52 h53
    go_wp2_with fail
    refine ret_cell3 rfl rfl (loadG h52) rfl ⟨G0, 0, ?_, ?_, ?_, ?_⟩
    · unfold rlxC; rw [HOK.out]; rfl
    · unfold rlxM; rw [HOK.out]; rfl
    · unfold rlxX; rw [HOK.out]; exact fb0
    · exact below_grown HB.out h53 HB.out.size (by omega)
  · have HOK := Lib.hid hok
    have hs := sane_of hok hx
    clear hok
    cases hsh : shareOk (fb x)
    · have HSH := Lib.hid hsh
      rcases share_no hsh with ⟨s1, s2⟩ | ⟨s1, s2, s3, s4⟩ | ⟨s1, s2, s3, s4, s5⟩
      all_goals
        clear hsh hs
        go_enter Try.func73, Try.ntmps73
        go_wp2_with (with_reducible refine wpList_box rfl ?_)
        intro b w1 hB1 hB2 hB3 hB4
        go_wp2_with (first | (with_reducible refine wpList_new newF ?_) | (with_reducible refine wpList_zero (zeroF _) ?_) | (with_reducible refine wpList_new newG ?_) | (with_reducible refine wpList_zero (zeroG _) ?_))
        intro A w2 hA1 hA2 hA3 hA4
        go_wp2_with ((with_reducible refine wpList_getG (hB3.later hA4) ?_ ?_); rfl)
        refine (ValidGround_any g w2 hr).mono ?_
        rw [HOK.out]
        rintro e w3 ⟨rfl, hb3⟩
        have HA3 := hA3.later hb3
        have HB := Lib.hid ((hB4.trans (hA4.mono hB4.size)).trans (hb3.mono (Nat.le_trans hB4.size hA4.size)))
        clear hB3 hB4 hA3 hA4 hb3
        go_wp2_with (first | (with_reducible refine wpList_new newF ?_) | (with_reducible refine wpList_zero (zeroF _) ?_) | (with_reducible refine wpList_new newG ?_) | (with_reducible refine wpList_zero (zeroG _) ?_) | ((with_reducible refine wpList_putG (g := G0) HA3 ?_ ?_ ?_); rfl; rfl))
        intro w5 h51 h52 h53
        go_wp2_with fail
        refine ret_cell3 rfl rfl (loadG h52) rfl ⟨G0, 0, ?_, ?_, ?_, ?_⟩
        · unfold rlxC; rw [HOK.out, HSH.out]; rfl
        · unfold rlxM; rw [HOK.out, HSH.out]; rfl
        · unfold rlxX; rw [HOK.out, HSH.out]; exact fb0
        · exact below_grown HB.out h53 HB.out.size (by omega)
    · have HSH := Lib.hid hsh
      obtain ⟨s0, s3, s5⟩ := share_yes hsh
      rcases s0 with s1 | ⟨s1, s2⟩ <;> rcases s5 with s4 | ⟨s4, s6⟩
      all_goals
        clear hsh
        go_enter Try.func73, Try.ntmps73
        go_wp2_with (with_reducible refine wpList_box rfl ?_)
        intro b w1 hB1 hB2 hB3 hB4
        go_wp2_with (first | (with_reducible refine wpList_new newF ?_) | (with_reducible refine wpList_zero (zeroF _) ?_) | (with_reducible refine wpList_new newG ?_) | (with_reducible refine wpList_zero (zeroG _) ?_))
        intro A w2 hA1 hA2 hA3 hA4
        go_wp2_with ((with_reducible refine wpList_getG (hB3.later hA4) ?_ ?_); rfl)
        refine (ValidGround_any g w2 hr).mono ?_
        rw [HOK.out]
        rintro e w3 ⟨rfl, hb3⟩
        have HA3 := hA3.later hb3
        have hG := (hB3.later hA4).later hb3
        have HB := Lib.hid ((hB4.trans (hA4.mono hB4.size)).trans (hb3.mono (Nat.le_trans hB4.size hA4.size)))
        have hbA : b < A := by omega
        have hA3' : A < w3.heap.size := HA3.lt
        clear hB3 hB4 hA3 hA4 hb3
        go_wp2_with (first | ((with_reducible refine wpList_getG hG ?_ ?_); rfl) | (with_reducible refine wpList_new newF ?_) | (with_reducible refine wpList_zero (zeroF _) ?_) | (with_reducible refine wpList_new newG ?_) | (with_reducible refine wpList_zero (zeroG _) ?_))
        intro B w4 hC1 hC2 hC3 hC4
        have HA4 := HA3.later hC4
        have hG4 := hG.later hC4
        go_wp2_with (refine wpList_putG hC3 rfl rfl ?_)
        intro w5 h51 h52 h53
        have HA5 := HA4.grown h53 (by omega)
        have hG5 := hG4.grown h53 (by omega)
        have HB5 := Lib.hid (below_grown (HB.out.trans (hC4.mono HB.out.size)) h53 (Nat.le_trans HB.out.size hC4.size) (by have := HB.out.size; omega))
        clear HA3 hG hC3 hC4 HA4 hG4 h53
        go_wp2_with fail
        refine (cells_any b 0 g w5 hr (GAt.of_blk hG5)).mono ?_
        rintro e w6 ⟨v, rfl, hown, hb6⟩
        obtain ⟨aL, cap, rfl, hL⟩ := list_form hown
        have HL := Lib.hid hL
        have HA6 := Lib.hid (HA5.later hb6)
        have HG6 := Lib.hid (hG5.later hb6)
        have HBl6 := Lib.hid (h52.later hb6)
        have HB6 := Lib.hid (HB5.out.trans (hb6.mono HB5.out.size))
        have hBlt : B < w5.heap.size := h52.lt
        have hABlt : A < B := by omega
        have hAw : w.heap.size ≤ A := by omega
        have hBw : w.heap.size ≤ B := by omega
        clear hL hown HA5 hG5 h52 hb6
        go_wp2_with fail
        go_loopw [28] (fun v28 wr => RlxRel g.m (fb x) (cellsM g.m) w6 B v28 wr) (fun v28 _ => (cellsM g.m).length - (intOf v28).toNat)
        case atStart => exact ⟨0, g, by omega, rfl, rfl, HBl6.out, grown_refl _ _⟩
        case round =>
          obtain ⟨j, gg, hj, rfl, hm, hB, hgr⟩ := hrel
          have HM := Lib.hid hm
          have hsg : gg.Sane := M.Sane.g (by rw [hm]; exact rlx_sane hs.m _ _)
          have HB := Lib.hid hB
          have HGR := Lib.hid hgr
          have HGb := Lib.hid (HG6.out.grown hgr (by omega))
          clear hm hB hgr
          by_cases hlt : j < (cellsM g.m).length
          · obtain ⟨c, hc⟩ : ∃ c, (cellsM g.m)[j]? = some c := ⟨_, List.getElem?_eq_getElem hlt⟩
            have hc64 : c < 64 := cellsTo_lt (List.mem_of_getElem? hc)
            have hj64 : j < 64 := Nat.lt_of_lt_of_le hlt (cellsTo_length _ _ _)
            obtain ⟨gq, rfl, hq1, hq2, hq3⟩ := HL.out j c hc
            have hcell := cell_grown hq3 HGR.out (by omega)
            have HC := Lib.hid hc
            have hc64' : (c : Int) < 64 := by omega
            have hlt' : (j : Int) < ((cellsTo g.wide g.high 64).length : Int) := by have : j < (cellsTo g.wide g.high 64).length := hlt; omega
            have hcur := (GAt.of_blk HB.out).h hc64
            simp only [Nat.zero_add] at hcur
            clear hq3 hc
            cases hf : fixB gg.fixed c
            · have HF := Lib.hid hf
              clear hf
              go_wp2_with (go_at_call 117; refine (fixed_any B 0 c gg _ hc64 hsg (GAt.of_blk HB.out)).mono ?_; rw [HF.out]; rintro e w' ⟨rfl, rfl⟩)
              refine (settled_any B 0 c gg wr hc64 hsg (GAt.of_blk HB.out)).mono ?_
              rintro e w7 ⟨r, rfl, hr7, hb7⟩
              have HB7 := HB.out.later hb7
              have HR := Lib.hid hr7
              clear hr7
              go_wp2_with (first | ((with_reducible refine wpList_gate ?_); refine wpList_arith _ _ rfl rfl rfl ?_; intro r n hr) | ((with_reducible refine wpList_gateS ?_); refine wpList_setH (HB7.drewN _) hc64 rfl rfl ?_))
              intro w8 h81 h82 h83
              rename_i rs ns hs' rm nm hm'
              have H82 := Lib.hid h82
              have HG8 := Lib.hid ((grown_trans (grown_trans HGR.out (grown_below (below_drawn hb7 _))) h83 : w6.grownBy w8 (some B)))
              have HM8 : Hid (G.m { gg with h := upd gg.h c r } = rlx g.m (fb x) ((cellsM g.m).take (j + 1))) := by
                show G.m _ = _
                rw [take_more HC.out, rlx_snoc, m_setH gg hc64, ← HM.out, rlxStep_free HF.out]
                show setH (G.m gg) c (fb r) = setH (G.m gg) c (fadd (fm gg.h c) (fmul (fb x) (fsub (head gg.m c) (fm gg.h c))))
                rw [hr.out, fop, hm'.out, fop, hs'.out, fop, HR.out.out, fm_of hc64]
              clear h82 hb7 HB7 h83
              go_wp2_with fail
              go_roundw
              case rel => exact ⟨j + 1, _, by omega, by go_num, HM8.out, H82.out, HG8.out⟩
              case measure => simp [intOf]; omega
            · have HF := Lib.hid hf
              clear hf
              go_wp2_with (go_at_call 117; refine (fixed_any B 0 c gg _ hc64 hsg (GAt.of_blk HB.out)).mono ?_; rw [HF.out]; rintro e w' ⟨rfl, rfl⟩)
              go_roundw
              case rel => exact ⟨j + 1, gg, by omega, by go_num, by rw [take_more HC.out, rlx_snoc, rlxStep_fixed (by rw [← HM.out]; exact HF.out)]; exact HM.out, HB.out, HGR.out⟩
              case measure => simp [intOf]; omega
          · have hjn : j = (cellsM g.m).length := by omega
            have hlt' : ¬ (j : Int) < ((cellsTo g.wide g.high 64).length : Int) := by have : ¬ j < (cellsTo g.wide g.high 64).length := hlt; omega
            have HM2 : Hid (gg.m = rlx g.m (fb x) (cellsM g.m)) := by
              have := HM.out
              rw [List.take_of_length_le (Nat.le_of_eq hjn.symm)] at this; exact this
            have HAr := Lib.hid (HA6.out.grown HGR.out (by omega))
            have HBr := Lib.hid (below_grown HB6.out HGR.out HB6.out.size (by omega))
            go_wp2_with fail
            refine (toldGround_any b 0 B _ g gg wr hs hsg.rng (GAt.of_blk HGb.out) HB.out).mono ?_
            rw [HM2.out]
            rintro e w9 ⟨go, r, rfl, hm9, hr9, hb9⟩
            have HA9 := HAr.out.later hb9
            have HB9 := Lib.hid (HBr.out.trans (hb9.mono HBr.out.size))
            clear hb9
            go_wp2_with (first | (with_reducible refine wpList_new newF ?_) | (with_reducible refine wpList_zero (zeroF _) ?_) | (with_reducible refine wpList_new newG ?_) | (with_reducible refine wpList_zero (zeroG _) ?_) | ((with_reducible refine wpList_putG (g := go) HA9 ?_ ?_ ?_); rfl; rfl))
            intro w10 h101 h102 h103
            go_wp2_with fail
            refine ret_cell3 rfl rfl (loadG h102) rfl ⟨go, r, ?_, ?_, ?_, below_grown HB9.out h103 HB9.out.size (by omega)⟩
            · unfold rlxC; rw [HOK.out, HSH.out]; rfl
            · unfold rlxM; rw [HOK.out, HSH.out]; exact hm9
            · unfold rlxX; rw [HOK.out, HSH.out]; exact hr9

end Go.Proofs.Ytfcphfdfpjmgiaa
