/- A ground is settled by sweeps. -/
import Derived.Test.YtfcphfdfpjmgiaaStepS
namespace Go.Proofs.Ytfcphfdfpjmgiaa
open Go.RowKit

/-- Sweeps till the heads are still: a ground, how many sweeps, a code. -/
def setl (x : F) : Nat → Nat → M → M × Int × Int
  | 0, _, _ => (G0.m, 0, 7)
  | r + 1, n, m => if okI (swp m (cellsM m)) then (if fle (chg m (swp m (cellsM m))) x then (swp m (cellsM m), ((n + 1 : Nat) : Int), 0) else setl x r (n + 1) (swp m (cellsM m))) else (G0.m, 0, 4)

/-- A ground, a count and a code are handed back. -/
def RetGII (t : M × Int × Int) (w : World) (e : Ending) (w' : World) : Prop :=
  ∃ gg, e = .returned (.tuple #[.agg (arrG gg), .int .i64 t.2.1, .int .i64 t.2.2]) ∧ gg.m = t.1 ∧ Below w.heap.size w w'

theorem setl_bad {x : F} {r n : Nat} {m : M} (h : okI (swp m (cellsM m)) = false) : setl x (r + 1) n m = (G0.m, 0, 4) := by
  show (if _ then _ else _) = _; rw [h]; rfl
theorem setl_end {x : F} {r n : Nat} {m : M} (h : okI (swp m (cellsM m)) = true) (h' : fle (chg m (swp m (cellsM m))) x = true) : setl x (r + 1) n m = (swp m (cellsM m), ((n + 1 : Nat) : Int), 0) := by
  show (if _ then (if _ then _ else _) else _) = _; rw [h, h']; rfl
theorem setl_more {x : F} {r n : Nat} {m : M} (h : okI (swp m (cellsM m)) = true) (h' : fle (chg m (swp m (cellsM m))) x = false) : setl x (r + 1) n m = setl x r (n + 1) (swp m (cellsM m)) := by
  show (if _ then (if _ then _ else _) else _) = _; rw [h, h']; rfl


def SetlRel (x : F) (most : Nat) (m : M) (w : World) (b A : Nat) (v9 : Value) (wr : World) : Prop :=
  ∃ (n : Nat) (g : G), n ≤ most ∧ v9 = .int .i64 ((n + 0 : Nat) : Int) ∧ g.m.Sane ∧ setl x (most - n) n g.m = setl x most 0 m ∧ Blk wr b (arrG g) 30 ∧ Blk wr A (arrG G0) 30 ∧ Below w.heap.size w wr

set_option maxRecDepth 100000 in
set_option maxHeartbeats 1600000 in
theorem settle_any (g : G) (x most : Nat) (w : World) (hs : g.Sane) (hm : most ≤ 2000) :
    Calls Try.prog 93 #[.agg (arrG g), .float .f32 x, .int .i64 most] w (RetGII (setl (fb x) most 0 g.m) w) := by
  have hlt := order_lt
  have heq := order_eq
  go_enter Try.func93, Try.ntmps93
  go_wp2_with (with_reducible refine wpList_box rfl ?_)
  intro b w1 hB1 hB2 hB3 hB4
  go_wp2_with (first | (with_reducible refine wpList_new newF ?_) | (with_reducible refine wpList_zero (zeroF _) ?_) | (with_reducible refine wpList_new newG ?_) | (with_reducible refine wpList_zero (zeroG _) ?_))
  intro A w2 hA1 hA2 hA3 hA4
  have HBb := Lib.hid (hB3.later hA4)
  have HAA := Lib.hid hA3
  have HBW := Lib.hid (hB4.trans (hA4.mono hB4.size))
  have hAb : A ≠ b := by omega
  have hAw : w.heap.size ≤ A := by omega
  have hbw : w.heap.size ≤ b := hB1
  clear hB3 hB4 hA3 hA4
  go_wp2_with fail
  go_loopw [9] (fun v9 wr => SetlRel (fb x) most g.m w b A v9 wr) (fun v9 _ => most + 1 - (intOf v9).toNat)
  case atStart => exact ⟨0, g, by omega, rfl, hs.m, rfl, HBb.out, HAA.out, HBW.out⟩
  case round =>
    obtain ⟨n, gg, hn, rfl, hsm, hset, hB, hA, hBel⟩ := hrel
    have HSET := Lib.hid hset
    have hsg : gg.Sane := M.Sane.g hsm
    have HSM := Lib.hid hsm
    have HB := Lib.hid hB
    have HA := Lib.hid hA
    have HBw := Lib.hid hBel
    have hbl : b < wr.heap.size := hB.lt
    have hAl : A < wr.heap.size := hA.lt
    clear hset hB hA hBel hsm
    by_cases hlt2 : n < most
    · obtain ⟨q, hq⟩ : ∃ q, most - n = q + 1 := ⟨most - n - 1, by omega⟩
      have hn1 : ((n + 0 : Nat) : Int) < (most : Int) := by omega
      rw [hq] at HSET
      go_wp2_with fail
      refine (cells_any b 0 gg wr hsg.rng (GAt.of_blk HB.out)).mono ?_
      rintro e w4 ⟨v, rfl, hown, hb4⟩
      have hG4 := HB.out.later hb4
      have HA4 := HA.out.later hb4
      have HB4 := Lib.hid (HBw.out.trans (hb4.mono HBw.out.size))
      have hL := listAt_of hown
      have hsz4 : wr.heap.size ≤ w4.heap.size := hb4.size
      clear hb4 hown
      go_wp2_with fail
      refine (sweep_any b _ v (cellsM gg.m) gg w4 hsg (fun c hc => cellsTo_lt hc) (cellsTo_length _ _ _) hL hG4).mono ?_
      rintro e w5 ⟨go, r, rfl, hm5, hr5, hb5⟩
      have hG5 := hG4.later hb5
      have HA5 := HA4.later hb5
      have HB5 := Lib.hid (HB4.out.trans (hb5.mono HB4.out.size))
      have hsz5 : w4.heap.size ≤ w5.heap.size := hb5.size
      have HM5 := Lib.hid hm5
      have HR5 := Lib.hid hr5
      clear hb5 hm5 hr5 hG4 HA4 hL
      go_wp2_with (first | (with_reducible refine wpList_new newF ?_) | (with_reducible refine wpList_zero (zeroF _) ?_) | (with_reducible refine wpList_new newG ?_) | (with_reducible refine wpList_zero (zeroG _) ?_))
      intro C w6 hC1 hC2 hC3 hC4
      have hG6 := hG5.later hC4
      have HA6 := HA5.later hC4
      go_wp2_with ((with_reducible refine wpList_putG (g := go) hC3 ?_ ?_ ?_); rfl; rfl)
      intro w7 s7 b7 k7
      have hG7 := hG6.grown k7 (by omega)
      have HA7 := HA6.grown k7 (by omega)
      have HB7 := Lib.hid (below_grown (HB5.out.trans (hC4.mono HB5.out.size)) k7 (Nat.le_trans HB5.out.size hC4.size) (by have := HB5.out.size; omega))
      have hCb : C ≠ b := by omega
      have hCA : C ≠ A := by omega
      have hCw : w.heap.size ≤ C := by have := HB5.out.size; omega
      clear hG5 HA5 hC3 hC4 hG6 HA6 k7
      cases hok : okI (swp gg.m (cellsM gg.m))
      · have HSE : Hid (setl (fb x) most 0 g.m = (G0.m, 0, 4)) := by show _ = _; rw [← HSET.out, setl_bad hok]
        have hsc : swC (swp gg.m (cellsM gg.m)) = 4 := by unfold swC; rw [hok]; rfl
        rw [hsc]
        clear hok hsc
        go_wp2_with (first | (with_reducible refine wpList_new newF ?_) | (with_reducible refine wpList_zero (zeroF _) ?_) | (with_reducible refine wpList_new newG ?_) | (with_reducible refine wpList_zero (zeroG _) ?_) | ((with_reducible refine wpList_putG (g := G0) HA7 ?_ ?_ ?_); rfl; rfl))
        intro w8 s8 b8 k8
        go_wp2_with fail
        exact ret_cell3 rfl rfl (loadG b8) rfl ⟨G0, by rw [HSE.out]; rfl, by rw [HSE.out], below_grown HB7.out k8 HB7.out.size hAw⟩
      · have hsc : swC (swp gg.m (cellsM gg.m)) = 0 := by unfold swC; rw [hok]; rfl
        have HM6 : Hid (go.m = swp gg.m (cellsM gg.m)) := by have := HM5.out; unfold swM at this; rw [hok] at this; exact this
        have HR6 : Hid (fb r = chg gg.m (swp gg.m (cellsM gg.m))) := by have := HR5.out.out; unfold swX at this; rw [hok] at this; exact this
        have HOK := Lib.hid hok
        rw [hsc]
        clear hok hsc
        go_wp2_with (first | ((with_reducible refine wpList_getG b7 ?_ ?_); rfl) | ((with_reducible refine wpList_putG (g := go) hG7 ?_ ?_ ?_); rfl; rfl))
        intro w8 s8 b8 k8
        have HB8 := Lib.hid (below_grown HB7.out k8 HB7.out.size hbw)
        have HA8 := Lib.hid (HA7.grown k8 hAb)
        have B8 := Lib.hid b8
        clear hG7 HA7 b7 k8 b8
        cases hfl : fle (fb r) (fb x)
        · have HS2 : Hid (setl (fb x) q (n + 1) go.m = setl (fb x) most 0 g.m) := by
            have := HSET.out
            rw [setl_more HOK.out (by rw [← HR6.out]; exact hfl)] at this
            rw [HM6.out]; exact this
          have HSM2 : Hid go.m.Sane := by show M.Sane _; rw [HM6.out]; exact swp_sane HSM.out _
          have hf := hfl
          unfold fle at hf
          simp only [Bool.or_eq_false_iff] at hf
          obtain ⟨f1, f2⟩ := hf
          go_wp2_with fail
          go_roundw
          case rel => exact ⟨n + 1, go, by omega, by go_num, HSM2.out, by rw [show most - (n + 1) = q by omega]; exact HS2.out, B8.out, HA8.out, HB8.out⟩
          case measure => simp [intOf]; omega
        · have HSE : Hid (setl (fb x) most 0 g.m = (swp gg.m (cellsM gg.m), ((n + 1 : Nat) : Int), 0)) := by show _ = _; rw [← HSET.out, setl_end HOK.out (by rw [← HR6.out]; exact hfl)]
          have hf := hfl
          unfold fle at hf
          cases f1 : flt (fb r) (fb x)
          · rw [f1] at hf
            have f2 : feq (fb r) (fb x) = true := hf
            clear hf hfl
            go_wp2_with (first | ((with_reducible refine wpList_getG B8.out ?_ ?_); rfl) | ((with_reducible refine wpList_putG (g := go) HA8.out ?_ ?_ ?_); rfl; rfl))
            intro w9 s9 b9 k9
            go_wp2_with fail
            exact ret_cell3 rfl rfl (loadG b9) rfl ⟨go, by rw [HSE.out]; rfl, by rw [HSE.out]; exact HM6.out, below_grown HB8.out k9 HB8.out.size hAw⟩
          · clear hf hfl
            go_wp2_with (first | ((with_reducible refine wpList_getG B8.out ?_ ?_); rfl) | ((with_reducible refine wpList_putG (g := go) HA8.out ?_ ?_ ?_); rfl; rfl))
            intro w9 s9 b9 k9
            go_wp2_with fail
            exact ret_cell3 rfl rfl (loadG b9) rfl ⟨go, by rw [HSE.out]; rfl, by rw [HSE.out]; exact HM6.out, below_grown HB8.out k9 HB8.out.size hAw⟩
    · have hnm : n = most := by omega
      have HSE : Hid (setl (fb x) most 0 g.m = (G0.m, 0, 7)) := by show _ = _; rw [← HSET.out, hnm, Nat.sub_self]; rfl
      have hn1 : ¬ ((n + 0 : Nat) : Int) < (most : Int) := by omega
      clear hnm
      go_wp2_with (first | (with_reducible refine wpList_new newF ?_) | (with_reducible refine wpList_zero (zeroF _) ?_) | (with_reducible refine wpList_new newG ?_) | (with_reducible refine wpList_zero (zeroG _) ?_) | ((with_reducible refine wpList_putG (g := G0) HA.out ?_ ?_ ?_); rfl; rfl))
      intro w8 s8 b8 k8
      go_wp2_with fail
      exact ret_cell3 rfl rfl (loadG b8) rfl ⟨G0, by rw [HSE.out]; rfl, by rw [HSE.out], below_grown HBw.out k8 HBw.out.size hAw⟩

def SetlRelS (x : F) (most : Nat) (m : M) (w : World) (b A : Nat) (v9 : Value) (wr : World) : Prop :=
  ∃ (n : Nat) (g : G), n ≤ most ∧ v9 = .int .i64 ((n + 1 : Nat) : Int) ∧ g.m.Sane ∧ setl x (most - n) n g.m = setl x most 0 m ∧ Blk wr b (arrG g) 30 ∧ Blk wr A (arrG G0) 30 ∧ Below w.heap.size w wr

set_option maxRecDepth 100000 in
set_option maxHeartbeats 1600000 in
theorem l02Settle_any (b0 : Nat) (t0 : TypeId) (g : G) (x most : Nat) (w : World) (hs : g.Sane) (hg0 : Blk w b0 (arrG g) t0) (hm : most ≤ 2000) :
    Calls Try.prog 97 #[.pointer (some ⟨b0, 0, none⟩), .float .f32 x, .int .i64 most] w (RetGII (setl (fb x) most 0 g.m) w) := by
  have hlt := order_lt
  have heq := order_eq
  go_enter Try.func97, Try.ntmps97
  go_wp2_with (first | (with_reducible refine wpList_new newF ?_) | (with_reducible refine wpList_zero (zeroF _) ?_) | (with_reducible refine wpList_new newG ?_) | (with_reducible refine wpList_zero (zeroG _) ?_))
  intro A w0 hA1 hA2 hA3 hA4
  have hg1 := hg0.later hA4
  go_wp2_with (first | ((with_reducible refine wpList_getG hg1 ?_ ?_); rfl) | (with_reducible refine wpList_new newF ?_) | (with_reducible refine wpList_zero (zeroF _) ?_) | (with_reducible refine wpList_new newG ?_) | (with_reducible refine wpList_zero (zeroG _) ?_))
  intro b w1 hB1 hB2 hB3 hB4
  have hA4' := hA3.later hB4
  go_wp2_with (refine wpList_putG hB3 rfl rfl ?_)
  intro w2 hC1 hC2 hC3
  have HBb := Lib.hid hC2
  have HAA := Lib.hid (hA4'.grown hC3 (by omega))
  have HBW := Lib.hid (below_grown (hA4.trans (hB4.mono hA4.size)) hC3 (Nat.le_trans hA4.size hB4.size) (by omega))
  have hAb : A ≠ b := by omega
  have hAw : w.heap.size ≤ A := by omega
  have hbw : w.heap.size ≤ b := by omega
  clear hB3 hB4 hA3 hA4 hA4' hC2 hC3 hg1 hg0
  go_wp2_with fail
  go_loopw [10] (fun v9 wr => SetlRelS (fb x) most g.m w b A v9 wr) (fun v9 _ => most + 1 - (intOf v9).toNat)
  case atStart => exact ⟨0, g, by omega, rfl, hs.m, rfl, HBb.out, HAA.out, HBW.out⟩
  case round =>
    obtain ⟨n, gg, hn, rfl, hsm, hset, hB, hA, hBel⟩ := hrel
    have HSET := Lib.hid hset
    have hsg : gg.Sane := M.Sane.g hsm
    have HSM := Lib.hid hsm
    have HB := Lib.hid hB
    have HA := Lib.hid hA
    have HBw := Lib.hid hBel
    have hbl : b < wr.heap.size := hB.lt
    have hAl : A < wr.heap.size := hA.lt
    clear hset hB hA hBel hsm
    by_cases hlt2 : n < most
    · obtain ⟨q, hq⟩ : ∃ q, most - n = q + 1 := ⟨most - n - 1, by omega⟩
      have hn1 : ((n + 1 : Nat) : Int) ≤ (most : Int) := by omega
      rw [hq] at HSET
      have hG4 := HB.out
      have HA4 := HA.out
      have HB4 := HBw
      go_wp2_with fail
      refine (l02Sweep_any b _ (-1) gg wr hsg hG4).mono ?_
      rw [show colM gg.m (-1) = swp gg.m (cellsM gg.m) by unfold colM cellsM; rw [colTo_all]]
      rintro e w5 ⟨go, r, rfl, hm5, hr5, hb5⟩
      have hG5 := hG4.later hb5
      have HA5 := HA4.later hb5
      have HB5 := Lib.hid (HB4.out.trans (hb5.mono HB4.out.size))
      have hsz5 : wr.heap.size ≤ w5.heap.size := hb5.size
      have hsz4 : wr.heap.size ≤ wr.heap.size := by exact Nat.le_refl _
      have HM5 := Lib.hid hm5
      have HR5 := Lib.hid hr5
      clear hb5 hm5 hr5 hG4 HA4 
      go_wp2_with (first | (with_reducible refine wpList_new newF ?_) | (with_reducible refine wpList_zero (zeroF _) ?_) | (with_reducible refine wpList_new newG ?_) | (with_reducible refine wpList_zero (zeroG _) ?_))
      intro C w6 hC1 hC2 hC3 hC4
      have hG6 := hG5.later hC4
      have HA6 := HA5.later hC4
      go_wp2_with ((with_reducible refine wpList_putG (g := go) hC3 ?_ ?_ ?_); rfl; rfl)
      intro w7 s7 b7 k7
      have hG7 := hG6.grown k7 (by omega)
      have HA7 := HA6.grown k7 (by omega)
      have HB7 := Lib.hid (below_grown (HB5.out.trans (hC4.mono HB5.out.size)) k7 (Nat.le_trans HB5.out.size hC4.size) (by have := HB5.out.size; omega))
      have hCb : C ≠ b := by omega
      have hCA : C ≠ A := by omega
      have hCw : w.heap.size ≤ C := by have := HB5.out.size; omega
      clear hG5 HA5 hC3 hC4 hG6 HA6 k7
      cases hok : okI (swp gg.m (cellsM gg.m))
      · have HSE : Hid (setl (fb x) most 0 g.m = (G0.m, 0, 4)) := by show _ = _; rw [← HSET.out, setl_bad hok]
        have hsc : swC (swp gg.m (cellsM gg.m)) = 4 := by unfold swC; rw [hok]; rfl
        rw [hsc]
        clear hok hsc
        go_wp2_with (first | (with_reducible refine wpList_new newF ?_) | (with_reducible refine wpList_zero (zeroF _) ?_) | (with_reducible refine wpList_new newG ?_) | (with_reducible refine wpList_zero (zeroG _) ?_) | ((with_reducible refine wpList_putG (g := G0) HA7 ?_ ?_ ?_); rfl; rfl))
        intro w8 s8 b8 k8
        go_wp2_with fail
        exact ret_cell3 rfl rfl (loadG b8) rfl ⟨G0, by rw [HSE.out]; rfl, by rw [HSE.out], below_grown HB7.out k8 HB7.out.size hAw⟩
      · have hsc : swC (swp gg.m (cellsM gg.m)) = 0 := by unfold swC; rw [hok]; rfl
        have HM6 : Hid (go.m = swp gg.m (cellsM gg.m)) := by have := HM5.out; unfold swM at this; rw [hok] at this; exact this
        have HR6 : Hid (fb r = chg gg.m (swp gg.m (cellsM gg.m))) := by have := HR5.out.out; unfold swX at this; rw [hok] at this; exact this
        have HOK := Lib.hid hok
        rw [hsc]
        clear hok hsc
        go_wp2_with (first | ((with_reducible refine wpList_getG b7 ?_ ?_); rfl) | ((with_reducible refine wpList_putG (g := go) hG7 ?_ ?_ ?_); rfl; rfl))
        intro w8 s8 b8 k8
        have HB8 := Lib.hid (below_grown HB7.out k8 HB7.out.size hbw)
        have HA8 := Lib.hid (HA7.grown k8 hAb)
        have B8 := Lib.hid b8
        clear hG7 HA7 b7 k8 b8
        cases hfl : fle (fb r) (fb x)
        · have HS2 : Hid (setl (fb x) q (n + 1) go.m = setl (fb x) most 0 g.m) := by
            have := HSET.out
            rw [setl_more HOK.out (by rw [← HR6.out]; exact hfl)] at this
            rw [HM6.out]; exact this
          have HSM2 : Hid go.m.Sane := by show M.Sane _; rw [HM6.out]; exact swp_sane HSM.out _
          have hf := hfl
          unfold fle at hf
          simp only [Bool.or_eq_false_iff] at hf
          obtain ⟨f1, f2⟩ := hf
          go_wp2_with fail
          go_roundw
          case rel => exact ⟨n + 1, go, by omega, by go_num, HSM2.out, by rw [show most - (n + 1) = q by omega]; exact HS2.out, B8.out, HA8.out, HB8.out⟩
          case measure => simp [intOf]; omega
        · have HSE : Hid (setl (fb x) most 0 g.m = (swp gg.m (cellsM gg.m), ((n + 1 : Nat) : Int), 0)) := by show _ = _; rw [← HSET.out, setl_end HOK.out (by rw [← HR6.out]; exact hfl)]
          have hf := hfl
          unfold fle at hf
          cases f1 : flt (fb r) (fb x)
          · rw [f1] at hf
            have f2 : feq (fb r) (fb x) = true := hf
            clear hf hfl
            go_wp2_with (first | ((with_reducible refine wpList_getG B8.out ?_ ?_); rfl) | ((with_reducible refine wpList_putG (g := go) HA8.out ?_ ?_ ?_); rfl; rfl))
            intro w9 s9 b9 k9
            go_wp2_with fail
            exact ret_cell3 rfl rfl (loadG b9) rfl ⟨go, by rw [HSE.out]; rfl, by rw [HSE.out]; exact HM6.out, below_grown HB8.out k9 HB8.out.size hAw⟩
          · clear hf hfl
            go_wp2_with (first | ((with_reducible refine wpList_getG B8.out ?_ ?_); rfl) | ((with_reducible refine wpList_putG (g := go) HA8.out ?_ ?_ ?_); rfl; rfl))
            intro w9 s9 b9 k9
            go_wp2_with fail
            exact ret_cell3 rfl rfl (loadG b9) rfl ⟨go, by rw [HSE.out]; rfl, by rw [HSE.out]; exact HM6.out, below_grown HB8.out k9 HB8.out.size hAw⟩
    · have hnm : n = most := by omega
      have HSE : Hid (setl (fb x) most 0 g.m = (G0.m, 0, 7)) := by show _ = _; rw [← HSET.out, hnm, Nat.sub_self]; rfl
      have hn1 : ¬ ((n + 1 : Nat) : Int) ≤ (most : Int) := by omega
      clear hnm
      go_wp2_with (first | (with_reducible refine wpList_new newF ?_) | (with_reducible refine wpList_zero (zeroF _) ?_) | (with_reducible refine wpList_new newG ?_) | (with_reducible refine wpList_zero (zeroG _) ?_) | ((with_reducible refine wpList_putG (g := G0) HA.out ?_ ?_ ?_); rfl; rfl))
      intro w8 s8 b8 k8
      go_wp2_with fail
      exact ret_cell3 rfl rfl (loadG b8) rfl ⟨G0, by rw [HSE.out]; rfl, by rw [HSE.out], below_grown HBw.out k8 HBw.out.size hAw⟩
end Go.Proofs.Ytfcphfdfpjmgiaa
