/- Both colours swept, one behind the other. -/
import Derived.Test.YtfcphfdfpjmgiaaColour
import Derived.Test.YtfcphfdfpjmgiaaLM1
namespace Go.Proofs.Ytfcphfdfpjmgiaa
open Go.RowKit

def fgreat (x y : F) : F := if fgt y x then y else x
def bothR (m : M) : M × F × Int :=
  if okI m then (if okI (colM m 0) then (if okI (colM (colM m 0) 1) then (colM (colM m 0) 1, fgreat (chg m (colM m 0)) (chg (colM m 0) (colM (colM m 0) 1)), 0) else (G0.m, some 0, 4)) else (G0.m, some 0, 4)) else (G0.m, some 0, 1)

theorem swp_shape (m : M) : ∀ l : List Nat, (swp m l).wide = m.wide ∧ (swp m l).high = m.high := by
  intro l
  unfold swp
  suffices ∀ (l : List Nat) (m' : M), (l.foldl (fun m c => setH m c (head m c)) m').wide = m'.wide ∧ (l.foldl (fun m c => setH m c (head m c)) m').high = m'.high from this l m
  intro l
  induction l with
  | nil => intro m'; exact ⟨rfl, rfl⟩
  | cons c l ih => intro m'; exact ih (setH m' c (head m' c))
theorem colM_wide (m : M) (z : Int) : (colM m z).wide = m.wide := (swp_shape m _).1
theorem colM_high (m : M) (z : Int) : (colM m z).high = m.high := (swp_shape m _).2

theorem chg_num {m h : M} (hm : okI m = true) (hh : okI h = true) (hW : h.wide = m.wide) (hH : h.high = m.high) : ∃ b, chg m h = some b ∧ b < 2147483648 := by
  have hsz := sized_of hm
  obtain ⟨c, hc⟩ := bestOf_some (d := df m h) (cells_ne (m := m) hsz.1.1 hsz.2.1)
  have hmem := bestOf_mem hc
  unfold cellsM cellsTo at hmem
  obtain ⟨h1, h2⟩ := List.mem_filter.1 hmem
  have hc64 : c < 64 := by simpa using h1
  have p1 := head_plain hm hc64 h2
  have p2 := head_plain hh hc64 (by rw [hW, hH]; exact h2)
  obtain ⟨d, hd, hd1, hd2⟩ := fsub_plain p2 p1
  refine ⟨d % 2147483648, ?_, by omega⟩
  unfold chg
  rw [hc]
  show fabs (df m h c) = _
  unfold df
  rw [hd]
  exact fabs_num d hd1 hd2

/-- 'max' of two numbers of which the first is no -0. -/
theorem run_max_num {P : Program} {x y q : Nat} (hx : fb x = some q) (hq : q < 2147483648) (hy : fb y ≠ none) (ts : Array TypeId) (t : TypeId) (w : World) :
    (Builtin.max_ ts t #[.float .f32 x, .float .f32 y]).run P w = .ok (.float .f32 (if fgt (fb y) (fb x) then y else x)) w := by
  have hqx : x = q := by
    unfold fb fbOf at hx
    split at hx
    · cases hx
    · cases hx; rfl
  subst hqx
  have hneg : (FloatKind.f32.decode x).neg = false := by
    have hs : Ieee.single.signWeight = 2147483648 := rfl
    have e : (x / 2147483648 % 2 == 1) = false := by rw [Nat.div_eq_of_lt hq]; rfl
    show (Ieee.single.read x).neg = false
    unfold Ieee.Format.read
    simp only [hs, e]
    split
    · rfl
    · split
      · rfl
      · split <;> rfl
  have ho : FloatKind.f32.format.order x y = ford (fb x) (fb y) := order32 x y
  have ho2 : ford (fb y) (fb x) = (ford (fb x) (fb y)).map Ordering.swap := ford_swap _ _
  have hno : FloatKind.f32.format.order x y ≠ none := by
    rw [ho]
    obtain ⟨y', hy'⟩ : ∃ y', fb y = some y' := by cases h : fb y with
      | none => exact absurd h hy
      | some y' => exact ⟨y', rfl⟩
    intro hn
    have hn' : (Ieee.single.read x).order (Ieee.single.read y) = none := (ford_fb x y).symm.trans hn
    have nx : ∀ b c, fb b = some c → (Ieee.single.read b).isNaN = false := fun b c h => by
      unfold fb fbOf at h
      split at h
      · cases h
      · rename_i h'; simpa using h'
    rcases order_none hn' with h | h
    · rw [nx x x hx] at h; cases h
    · rw [nx y y' hy'] at h; cases h
  unfold fgt
  rw [ho2, ← ho]
  cases hc : FloatKind.f32.format.order x y with
  | none => exact absurd hc hno
  | some o => cases o <;> simp [Builtin.max_, Builtin.max2, hc, hneg]

set_option maxRecDepth 100000 in
set_option maxHeartbeats 1600000 in
theorem SweepBoth_any (g : G) (w : World) (hr : g.Rng) (hx : g.Fx) :
    Calls Try.prog 72 #[.agg (arrG g)] w (RetGF (bothR g.m).1 (bothR g.m).2.1 (bothR g.m).2.2 w) := by
  cases hok : okI g.m
  · have HR : Hid (bothR g.m = (G0.m, some 0, 1)) := by show _ = _; unfold bothR; rw [hok]; rfl
    have C0 : Hid (clC g.m 0 = 1) := by show _ = _; unfold clC; rw [hok]; rfl
    clear hok
    go_enter Try.func72, Try.ntmps72
    go_wp2_with (with_reducible refine wpList_box rfl ?_)
    intro b w1 hB1 hB2 hB3 hB4
    go_wp2_with (first | (with_reducible refine wpList_new newF ?_) | (with_reducible refine wpList_zero (zeroF _) ?_) | (with_reducible refine wpList_new newG ?_) | (with_reducible refine wpList_zero (zeroG _) ?_))
    intro A w2 hA1 hA2 hA3 hA4
    have HGb := hB3.later hA4
    have HB2 := Lib.hid (hB4.trans (hA4.mono hB4.size))
    have hAw : w.heap.size ≤ A := by omega
    go_wp2_with ((with_reducible refine wpList_getG HGb ?_ ?_); rfl)
    refine (SweepColour_any g 0 w2 hr hx).mono ?_
    rw [C0.out]
    rintro e w3 ⟨go3, r3, rfl, hm3, hr3, hb3⟩
    have HA3 := hA3.later hb3
    have HB3 := Lib.hid (HB2.out.trans (hb3.mono HB2.out.size))
    have HM3 := Lib.hid hm3
    have HR3 := Lib.hid hr3
    clear hm3 hr3
    go_wp2_with (first | (with_reducible refine wpList_new newF ?_) | (with_reducible refine wpList_zero (zeroF _) ?_) | (with_reducible refine wpList_new newG ?_) | (with_reducible refine wpList_zero (zeroG _) ?_))
    intro C3 v3 hC31 hC32 hC33 hC34
    have HAa3 := HA3.later hC34
    have hAl3 : A < w3.heap.size := HA3.lt
    go_wp2_with ((with_reducible refine wpList_putG (g := go3) hC33 ?_ ?_ ?_); rfl; rfl)
    intro u3 s3 b3 k3
    have HAb3 := HAa3.grown k3 (by omega)
    have HBb3 := Lib.hid (below_grown (HB3.out.trans (hC34.mono HB3.out.size)) k3 (Nat.le_trans HB3.out.size hC34.size) (by have := HB3.out.size; omega))
    clear hb3 HA3 hC33 hC34 HAa3 k3 hB3 hB4 hA3 hA4 HGb
    go_wp2_with (first | (with_reducible refine wpList_new newF ?_) | (with_reducible refine wpList_zero (zeroF _) ?_) | (with_reducible refine wpList_new newG ?_) | (with_reducible refine wpList_zero (zeroG _) ?_) | ((with_reducible refine wpList_putG (g := G0) HAb3 ?_ ?_ ?_); rfl; rfl))
    intro w20 h201 h202 h203
    go_wp2_with fail
    exact ret_cell3 rfl rfl (loadG h202) rfl ⟨G0, 0, by rw [HR.out]; rfl, by rw [HR.out], by rw [HR.out]; exact fb0, below_grown HBb3.out h203 HBb3.out.size (by omega)⟩
  · have hs := sane_of hok hx
    cases hh : okI (colM g.m 0)
    · have HR : Hid (bothR g.m = (G0.m, some 0, 4)) := by show _ = _; unfold bothR; rw [hok, hh]; rfl
      have C0 : Hid (clC g.m 0 = 4) := by show _ = _; unfold clC swC; rw [hok, hh]; rfl
      clear hok hh
      go_enter Try.func72, Try.ntmps72
      go_wp2_with (with_reducible refine wpList_box rfl ?_)
      intro b w1 hB1 hB2 hB3 hB4
      go_wp2_with (first | (with_reducible refine wpList_new newF ?_) | (with_reducible refine wpList_zero (zeroF _) ?_) | (with_reducible refine wpList_new newG ?_) | (with_reducible refine wpList_zero (zeroG _) ?_))
      intro A w2 hA1 hA2 hA3 hA4
      have HGb := hB3.later hA4
      have HB2 := Lib.hid (hB4.trans (hA4.mono hB4.size))
      have hAw : w.heap.size ≤ A := by omega
      go_wp2_with ((with_reducible refine wpList_getG HGb ?_ ?_); rfl)
      refine (SweepColour_any g 0 w2 hr hx).mono ?_
      rw [C0.out]
      rintro e w3 ⟨go3, r3, rfl, hm3, hr3, hb3⟩
      have HA3 := hA3.later hb3
      have HB3 := Lib.hid (HB2.out.trans (hb3.mono HB2.out.size))
      have HM3 := Lib.hid hm3
      have HR3 := Lib.hid hr3
      clear hm3 hr3
      go_wp2_with (first | (with_reducible refine wpList_new newF ?_) | (with_reducible refine wpList_zero (zeroF _) ?_) | (with_reducible refine wpList_new newG ?_) | (with_reducible refine wpList_zero (zeroG _) ?_))
      intro C3 v3 hC31 hC32 hC33 hC34
      have HAa3 := HA3.later hC34
      have hAl3 : A < w3.heap.size := HA3.lt
      go_wp2_with ((with_reducible refine wpList_putG (g := go3) hC33 ?_ ?_ ?_); rfl; rfl)
      intro u3 s3 b3 k3
      have HAb3 := HAa3.grown k3 (by omega)
      have HBb3 := Lib.hid (below_grown (HB3.out.trans (hC34.mono HB3.out.size)) k3 (Nat.le_trans HB3.out.size hC34.size) (by have := HB3.out.size; omega))
      clear hb3 HA3 hC33 hC34 HAa3 k3 hB3 hB4 hA3 hA4 HGb
      go_wp2_with (first | (with_reducible refine wpList_new newF ?_) | (with_reducible refine wpList_zero (zeroF _) ?_) | (with_reducible refine wpList_new newG ?_) | (with_reducible refine wpList_zero (zeroG _) ?_) | ((with_reducible refine wpList_putG (g := G0) HAb3 ?_ ?_ ?_); rfl; rfl))
      intro w20 h201 h202 h203
      go_wp2_with fail
      exact ret_cell3 rfl rfl (loadG h202) rfl ⟨G0, 0, by rw [HR.out]; rfl, by rw [HR.out], by rw [HR.out]; exact fb0, below_grown HBb3.out h203 HBb3.out.size (by omega)⟩
    · cases hk : okI (colM (colM g.m 0) 1)
      · have HR : Hid (bothR g.m = (G0.m, some 0, 4)) := by show _ = _; unfold bothR; rw [hok, hh, hk]; rfl
        have C0 : Hid (clC g.m 0 = 0) := by show _ = _; unfold clC swC; rw [hok, hh]; rfl
        have M0 : Hid (clM g.m 0 = colM g.m 0) := by show _ = _; unfold clM swM; rw [hok, hh]; rfl
        have C1 : Hid (clC (colM g.m 0) 1 = 4) := by show _ = _; unfold clC swC; rw [hh, hk]; rfl
        clear hok hh hk
        go_enter Try.func72, Try.ntmps72
        go_wp2_with (with_reducible refine wpList_box rfl ?_)
        intro b w1 hB1 hB2 hB3 hB4
        go_wp2_with (first | (with_reducible refine wpList_new newF ?_) | (with_reducible refine wpList_zero (zeroF _) ?_) | (with_reducible refine wpList_new newG ?_) | (with_reducible refine wpList_zero (zeroG _) ?_))
        intro A w2 hA1 hA2 hA3 hA4
        have HGb := hB3.later hA4
        have HB2 := Lib.hid (hB4.trans (hA4.mono hB4.size))
        have hAw : w.heap.size ≤ A := by omega
        go_wp2_with ((with_reducible refine wpList_getG HGb ?_ ?_); rfl)
        refine (SweepColour_any g 0 w2 hr hx).mono ?_
        rw [C0.out]
        rintro e w3 ⟨go3, r3, rfl, hm3, hr3, hb3⟩
        have HA3 := hA3.later hb3
        have HB3 := Lib.hid (HB2.out.trans (hb3.mono HB2.out.size))
        have HM3 := Lib.hid hm3
        have HR3 := Lib.hid hr3
        clear hm3 hr3
        go_wp2_with (first | (with_reducible refine wpList_new newF ?_) | (with_reducible refine wpList_zero (zeroF _) ?_) | (with_reducible refine wpList_new newG ?_) | (with_reducible refine wpList_zero (zeroG _) ?_))
        intro C3 v3 hC31 hC32 hC33 hC34
        have HAa3 := HA3.later hC34
        have hAl3 : A < w3.heap.size := HA3.lt
        go_wp2_with ((with_reducible refine wpList_putG (g := go3) hC33 ?_ ?_ ?_); rfl; rfl)
        intro u3 s3 b3 k3
        have HAb3 := HAa3.grown k3 (by omega)
        have HBb3 := Lib.hid (below_grown (HB3.out.trans (hC34.mono HB3.out.size)) k3 (Nat.le_trans HB3.out.size hC34.size) (by have := HB3.out.size; omega))
        clear hb3 HA3 hC33 hC34 HAa3 k3 hB3 hB4 hA3 hA4 HGb
        have hh : go3.m = colM g.m 0 := HM3.out.trans M0.out
        have HHM := Lib.hid hh
        have hsh : go3.m.Sane := by rw [hh]; exact swp_sane hs.m _
        have hsg := M.Sane.g hsh
        have hx3 : go3.Fx := ⟨hsh.f0, hsh.f1⟩
        go_wp2_with ((with_reducible refine wpList_getG b3 ?_ ?_); rfl)
        refine (SweepColour_any go3 1 u3 hsg.rng hx3).mono ?_
        rw [HHM.out, C1.out]
        rintro e w4 ⟨go4, r4, rfl, hm4, hr4, hb4⟩
        have HA4 := HAb3.later hb4
        have HB4 := Lib.hid (HBb3.out.trans (hb4.mono HBb3.out.size))
        have HM4 := Lib.hid hm4
        have HR4 := Lib.hid hr4
        clear hm4 hr4
        go_wp2_with (first | (with_reducible refine wpList_new newF ?_) | (with_reducible refine wpList_zero (zeroF _) ?_) | (with_reducible refine wpList_new newG ?_) | (with_reducible refine wpList_zero (zeroG _) ?_))
        intro C4 v4 hC41 hC42 hC43 hC44
        have HAa4 := HA4.later hC44
        have hAl4 : A < w4.heap.size := HA4.lt
        go_wp2_with ((with_reducible refine wpList_putG (g := go4) hC43 ?_ ?_ ?_); rfl; rfl)
        intro u4 s4 b4 k4
        have HAb4 := HAa4.grown k4 (by omega)
        have HBb4 := Lib.hid (below_grown (HB4.out.trans (hC44.mono HB4.out.size)) k4 (Nat.le_trans HB4.out.size hC44.size) (by have := HB4.out.size; omega))
        clear hb4 HA4 hC43 hC44 HAa4 k4 b3
        go_wp2_with (first | (with_reducible refine wpList_new newF ?_) | (with_reducible refine wpList_zero (zeroF _) ?_) | (with_reducible refine wpList_new newG ?_) | (with_reducible refine wpList_zero (zeroG _) ?_) | ((with_reducible refine wpList_putG (g := G0) HAb4 ?_ ?_ ?_); rfl; rfl))
        intro w20 h201 h202 h203
        go_wp2_with fail
        exact ret_cell3 rfl rfl (loadG h202) rfl ⟨G0, 0, by rw [HR.out]; rfl, by rw [HR.out], by rw [HR.out]; exact fb0, below_grown HBb4.out h203 HBb4.out.size (by omega)⟩
      · have HR : Hid (bothR g.m = (colM (colM g.m 0) 1, fgreat (chg g.m (colM g.m 0)) (chg (colM g.m 0) (colM (colM g.m 0) 1)), 0)) := by show _ = _; unfold bothR; rw [hok, hh, hk]; rfl
        have C0 : Hid (clC g.m 0 = 0) := by show _ = _; unfold clC swC; rw [hok, hh]; rfl
        have M0 : Hid (clM g.m 0 = colM g.m 0) := by show _ = _; unfold clM swM; rw [hok, hh]; rfl
        have X0 : Hid (clX g.m 0 = chg g.m (colM g.m 0)) := by show _ = _; unfold clX swX; rw [hok, hh]; rfl
        have C1 : Hid (clC (colM g.m 0) 1 = 0) := by show _ = _; unfold clC swC; rw [hh, hk]; rfl
        have M1 : Hid (clM (colM g.m 0) 1 = colM (colM g.m 0) 1) := by show _ = _; unfold clM swM; rw [hh, hk]; rfl
        have X1 : Hid (clX (colM g.m 0) 1 = chg (colM g.m 0) (colM (colM g.m 0) 1)) := by show _ = _; unfold clX swX; rw [hh, hk]; rfl
        have NUM : Hid (∃ q, chg g.m (colM g.m 0) = some q ∧ q < 2147483648) := chg_num hok hh (colM_wide _ _) (colM_high _ _)
        have NUM2 : Hid (chg (colM g.m 0) (colM (colM g.m 0) 1) ≠ none) := by obtain ⟨q, e, _⟩ := chg_num hh hk (colM_wide _ _) (colM_high _ _); show _ ≠ _; rw [e]; exact fun h => by cases h
        clear hok hh hk
        go_enter Try.func72, Try.ntmps72
        go_wp2_with (with_reducible refine wpList_box rfl ?_)
        intro b w1 hB1 hB2 hB3 hB4
        go_wp2_with (first | (with_reducible refine wpList_new newF ?_) | (with_reducible refine wpList_zero (zeroF _) ?_) | (with_reducible refine wpList_new newG ?_) | (with_reducible refine wpList_zero (zeroG _) ?_))
        intro A w2 hA1 hA2 hA3 hA4
        have HGb := hB3.later hA4
        have HB2 := Lib.hid (hB4.trans (hA4.mono hB4.size))
        have hAw : w.heap.size ≤ A := by omega
        go_wp2_with ((with_reducible refine wpList_getG HGb ?_ ?_); rfl)
        refine (SweepColour_any g 0 w2 hr hx).mono ?_
        rw [C0.out]
        rintro e w3 ⟨go3, r3, rfl, hm3, hr3, hb3⟩
        have HA3 := hA3.later hb3
        have HB3 := Lib.hid (HB2.out.trans (hb3.mono HB2.out.size))
        have HM3 := Lib.hid hm3
        have HR3 := Lib.hid hr3
        clear hm3 hr3
        go_wp2_with (first | (with_reducible refine wpList_new newF ?_) | (with_reducible refine wpList_zero (zeroF _) ?_) | (with_reducible refine wpList_new newG ?_) | (with_reducible refine wpList_zero (zeroG _) ?_))
        intro C3 v3 hC31 hC32 hC33 hC34
        have HAa3 := HA3.later hC34
        have hAl3 : A < w3.heap.size := HA3.lt
        go_wp2_with ((with_reducible refine wpList_putG (g := go3) hC33 ?_ ?_ ?_); rfl; rfl)
        intro u3 s3 b3 k3
        have HAb3 := HAa3.grown k3 (by omega)
        have HBb3 := Lib.hid (below_grown (HB3.out.trans (hC34.mono HB3.out.size)) k3 (Nat.le_trans HB3.out.size hC34.size) (by have := HB3.out.size; omega))
        clear hb3 HA3 hC33 hC34 HAa3 k3 hB3 hB4 hA3 hA4 HGb
        have hh : go3.m = colM g.m 0 := HM3.out.trans M0.out
        have HHM := Lib.hid hh
        have hsh : go3.m.Sane := by rw [hh]; exact swp_sane hs.m _
        have hsg := M.Sane.g hsh
        have hx3 : go3.Fx := ⟨hsh.f0, hsh.f1⟩
        go_wp2_with ((with_reducible refine wpList_getG b3 ?_ ?_); rfl)
        refine (SweepColour_any go3 1 u3 hsg.rng hx3).mono ?_
        rw [HHM.out, C1.out]
        rintro e w4 ⟨go4, r4, rfl, hm4, hr4, hb4⟩
        have HA4 := HAb3.later hb4
        have HB4 := Lib.hid (HBb3.out.trans (hb4.mono HBb3.out.size))
        have HM4 := Lib.hid hm4
        have HR4 := Lib.hid hr4
        clear hm4 hr4
        go_wp2_with (first | (with_reducible refine wpList_new newF ?_) | (with_reducible refine wpList_zero (zeroF _) ?_) | (with_reducible refine wpList_new newG ?_) | (with_reducible refine wpList_zero (zeroG _) ?_))
        intro C4 v4 hC41 hC42 hC43 hC44
        have HAa4 := HA4.later hC44
        have hAl4 : A < w4.heap.size := HA4.lt
        go_wp2_with ((with_reducible refine wpList_putG (g := go4) hC43 ?_ ?_ ?_); rfl; rfl)
        intro u4 s4 b4 k4
        have HAb4 := HAa4.grown k4 (by omega)
        have HBb4 := Lib.hid (below_grown (HB4.out.trans (hC44.mono HB4.out.size)) k4 (Nat.le_trans HB4.out.size hC44.size) (by have := HB4.out.size; omega))
        clear hb4 HA4 hC43 hC44 HAa4 k4 b3
        have e1 : fb r3 = chg g.m (colM g.m 0) := HR3.out.out.trans X0.out
        have e2 : fb r4 = chg (colM g.m 0) (colM (colM g.m 0) 1) := HR4.out.out.trans X1.out
        obtain ⟨q, q1, q2⟩ := NUM.out
        have hmax := run_max_num (P := Try.prog) (x := r3) (y := r4) (by rw [e1]; exact q1) q2 (by rw [e2]; exact NUM2.out)
        have HF : Hid (fb (if fgt (fb r4) (fb r3) then r4 else r3) = fgreat (chg g.m (colM g.m 0)) (chg (colM g.m 0) (colM (colM g.m 0) 1))) := by
          show _ = _
          rw [e1, e2]
          unfold fgreat
          split
          · exact e2
          · exact e1
        generalize (if fgt (fb r4) (fb r3) then r4 else r3) = r5 at hmax HF
        clear e1 e2 q1
        go_wp2_with (first | ((with_reducible refine wpList_getG b4 ?_ ?_); rfl) | ((with_reducible refine wpList_putG (g := go4) HAb4 ?_ ?_ ?_); rfl; rfl))
        intro w20 h201 h202 h203
        go_wp2_with fail
        exact ret_cell3 rfl rfl (loadG h202) rfl ⟨go4, r5, by rw [HR.out]; rfl, by rw [HR.out]; exact HM4.out.trans M1.out, by rw [HR.out]; exact HF.out, below_grown HBb4.out h203 HBb4.out.size (by omega)⟩

end Go.Proofs.Ytfcphfdfpjmgiaa
