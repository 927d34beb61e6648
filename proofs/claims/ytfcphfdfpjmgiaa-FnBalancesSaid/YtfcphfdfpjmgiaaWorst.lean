/- The cell whose balance is worst. -/
import Derived.Test.YtfcphfdfpjmgiaaColour
import Derived.Test.YtfcphfdfpjmgiaaFree
import Derived.Test.YtfcphfdfpjmgiaaTold
namespace Go.Proofs.Ytfcphfdfpjmgiaa
open Go.RowKit

theorem balTo_fits {m : M} (h : ∀ k, Fits (m.g k)) (k : Nat) : ∀ n, Fits (balTo m k n)
  | 0 => h k
  | n + 1 => by
    show Fits (if _ then _ else _)
    split
    · exact fsub_fits _ _
    · exact balTo_fits h k n
theorem balF_fits {m : M} (h : ∀ k, Fits (m.g k)) (l : List Nat) (i : Nat) : Fits (balF m l i) := by
  unfold balF
  split
  · split
    · exact balTo_fits h _ _
    · intro b e; cases e; decide
  · intro b e; cases e
theorem G.Fit.gf {g : G} (h : g.Fit) (k : Nat) : Fits (g.m.g k) := by
  show Fits (fm g.g k)
  unfold fm
  split
  · rename_i hk
    intro b e
    have : fb (g.g k) = some b := e
    unfold fb fbOf at this
    split at this
    · cases this
    · cases this; exact h.fg k hk
  · intro b e; cases e

def worstB (m : M) : Option Nat := bestOf (balF m (cellsM m)) (freeL m 64)
def worstR (m : M) : Int × F × Int :=
  if okI m then (if balOk m (cellsM m) then (match worstB m with | none => (0, some 0, 6) | some b => ((b : Int), balF m (cellsM m) b, 0)) else (0, some 0, 4)) else (0, some 0, 1)

set_option maxRecDepth 100000 in
set_option maxHeartbeats 1600000 in
theorem WorstBalance_any (g : G) (w : World) (hr : g.Rng) (hx : g.Fx) (hgf : ∀ k, Fits (g.m.g k)) :
    Calls Try.prog 76 #[.agg (arrG g)] w (RetIFI (worstR g.m) w) := by
  cases hok : okI g.m
  · have HW : Hid (worstR g.m = (0, some 0, 1)) := by show _ = _; unfold worstR; rw [hok]; rfl
    have HOK := Lib.hid hok
    clear hok hx hgf
    go_enter Try.func76, Try.ntmps76
    go_wp2_with (with_reducible refine wpList_box rfl ?_)
    intro b w1 hB1 hB2 hB3 hB4
    go_wp2_with ((with_reducible refine wpList_getG hB3 ?_ ?_); rfl)
    refine (ValidGround_any g w1 hr).mono ?_
    rw [HOK.out]
    rintro e w3 ⟨rfl, hb3⟩
    have HB := Lib.hid (hB4.trans (hb3.mono hB4.size))
    clear hB3 hB4 hb3
    go_wp2_with fail
    refine ret_tmp3 rfl rfl ?_
    exact ⟨0, by rw [HW.out]; rfl, by rw [HW.out]; exact fb0, HB.out⟩
  · have hs := sane_of hok hx
    cases hbo : balOk g.m (cellsM g.m)
    · have HW : Hid (worstR g.m = (0, some 0, 4)) := by show _ = _; unfold worstR; rw [hok, hbo]; rfl
      have HOK := Lib.hid hok
      have HBO := Lib.hid hbo
      clear hok hgf hbo
      go_enter Try.func76, Try.ntmps76
      go_wp2_with (with_reducible refine wpList_box rfl ?_)
      intro b w1 hB1 hB2 hB3 hB4
      go_wp2_with ((with_reducible refine wpList_getG hB3 ?_ ?_); rfl)
      refine (ValidGround_any g w1 hr).mono ?_
      rw [HOK.out]
      rintro e w3 ⟨rfl, hb3⟩
      have HG := hB3.later hb3
      have HB := Lib.hid (hB4.trans (hb3.mono hB4.size))
      clear hB3 hB4 hb3
      go_wp2_with fail
      refine (balances_any b 0 g w3 hr hs.hW hs.hH (GAt.of_blk HG)).mono ?_
      rintro e w4 ⟨f, rfl, hf, hb4⟩
      rw [HBO.out]
      have HB4 := Lib.hid (HB.out.trans (hb4.mono HB.out.size))
      clear hb4 HG
      go_wp2_with (first | (with_reducible refine wpList_new newF ?_) | (with_reducible refine wpList_zero (zeroF _) ?_) | (with_reducible refine wpList_new newG ?_) | (with_reducible refine wpList_zero (zeroG _) ?_))
      intro C w5 hC1 hC2 hC3 hC4
      go_wp2_with ((with_reducible refine wpList_putF (f := f) hC3 ?_ ?_ ?_); rfl; rfl)
      intro w6 s6 b6 k6
      have HB6 := Lib.hid (below_grown (HB4.out.trans (hC4.mono HB4.out.size)) k6 (Nat.le_trans HB4.out.size hC4.size) (by have := HB4.out.size; omega))
      clear hC3 hC4 k6 b6
      go_wp2_with fail
      refine ret_tmp3 rfl rfl ?_
      exact ⟨0, by rw [HW.out]; rfl, by rw [HW.out]; exact fb0, HB6.out⟩
    · have HOK := Lib.hid hok
      have HBO := Lib.hid hbo
      have HW0 : Hid (worstR g.m = (match worstB g.m with | none => (0, some 0, 6) | some b => ((b : Int), balF g.m (cellsM g.m) b, 0))) := by show _ = _; unfold worstR; rw [hok, hbo]; rfl
      clear hok hbo
      go_enter Try.func76, Try.ntmps76
      go_wp2_with (with_reducible refine wpList_box rfl ?_)
      intro b w1 hB1 hB2 hB3 hB4
      go_wp2_with ((with_reducible refine wpList_getG hB3 ?_ ?_); rfl)
      refine (ValidGround_any g w1 hr).mono ?_
      rw [HOK.out]
      rintro e w3 ⟨rfl, hb3⟩
      have HG := hB3.later hb3
      have HB := Lib.hid (hB4.trans (hb3.mono hB4.size))
      clear hB3 hB4 hb3
      go_wp2_with fail
      refine (balances_any b 0 g w3 hr hs.hW hs.hH (GAt.of_blk HG)).mono ?_
      rintro e w4 ⟨f, rfl, hf, hb4⟩
      rw [HBO.out]
      have HF := Lib.hid hf
      have HG4 := HG.later hb4
      have HB4 := Lib.hid (HB.out.trans (hb4.mono HB.out.size))
      clear hb4 HG hf
      go_wp2_with (first | (with_reducible refine wpList_new newF ?_) | (with_reducible refine wpList_zero (zeroF _) ?_) | (with_reducible refine wpList_new newG ?_) | (with_reducible refine wpList_zero (zeroG _) ?_))
      intro C w5 hC1 hC2 hC3 hC4
      have HG5 := HG4.later hC4
      have hbC : b < C := by have := HG4.lt; omega
      go_wp2_with ((with_reducible refine wpList_putF (f := f) hC3 ?_ ?_ ?_); rfl; rfl)
      intro w6 s6 b6 k6
      have HG6 := HG5.grown k6 (by omega)
      have HB6 := Lib.hid (below_grown (HB4.out.trans (hC4.mono HB4.out.size)) k6 (Nat.le_trans HB4.out.size hC4.size) (by have := HB4.out.size; omega))
      have hCl : C < w6.heap.size := b6.lt
      have hCw : w.heap.size ≤ C := by have := HB4.out.size; omega
      clear hC3 hC4 k6 HG4 HG5
      go_wp2_with fail
      refine (cells_any b 0 g w6 hr (GAt.of_blk HG6)).mono ?_
      rintro e w7 ⟨v, rfl, hown, hb7⟩
      obtain ⟨gq, cap, rfl, hgq, hLB⟩ := lblk_of hown (cells_ne (m := g.m) hs.lW hs.lH)
      have HG7 := GAt.of_blk (HG6.later hb7)
      have HC7 := b6.later hb7
      have HB7 := Lib.hid (HB6.out.trans (hb7.mono HB6.out.size))
      have HLB := Lib.hid hLB
      clear hb7 hown hLB HG6 b6
      go_wp2_with fail
      refine (del_fix gq cap (cellsM g.m) b 0 g w7 (fun c hc => cellsTo_lt hc) (cellsTo_length _ _ _) HLB.out hs HG7 (by omega)).mono ?_
      rintro e w8 ⟨rfl, hLB8, hgr8⟩
      have HL : Hid (((cellsM g.m).filter fun c => !fixB g.fixed c) = freeL g.m 64) := rfl
      rw [HL.out] at hLB8
      rw [HL.out]
      have hL8 := LBlk.list hLB8
      have HC8 := HC7.grown hgr8 (by omega)
      have HB8 := Lib.hid (below_grown HB7.out hgr8 HB7.out.size (by have := HB6.out.size; omega))
      clear HG7 HC7 hgr8 hLB8
      have hfat : FAt w8 C 0 f := fun i hi => by rw [Nat.zero_add]; exact HC8.at (arrF_get f hi)
      have HFT : Hid (∀ c, Fits (fm f c)) := by show ∀ c, _; intro c; rw [HF.out]; exact balF_fits hgf _ _
      go_wp2_with fail
      refine (greatest_any C _ (freeL g.m 64) f w8 (fun c hc => freeL_lt hc) (freeL_length _ _) HFT.out hL8 hfat).mono ?_
      rintro e w9 ⟨rfl, hb9⟩
      have HC9 := HC8.later hb9
      have HB9 := Lib.hid (HB8.out.trans (hb9.mono HB8.out.size))
      clear hb9 hL8 hfat HC8
      have HBEST : Hid (bestOf (fm f) (freeL g.m 64) = worstB g.m) := by show _ = _; rw [HF.out]; rfl
      rw [HBEST.out]
      cases hwb : worstB g.m with
      | none =>
        have HW : Hid (worstR g.m = (0, some 0, 6)) := by show _ = _; rw [HW0.out, hwb]
        rw [show bestI none = -1 from rfl]
        clear HW0 HBEST hwb HC9
        go_wp2_with fail
        refine ret_tmp3 rfl rfl ?_
        exact ⟨0, by rw [HW.out]; rfl, by rw [HW.out]; exact fb0, HB9.out⟩
      | some k =>
        have hk64 : k < 64 := by
          unfold worstB at hwb
          exact freeL_lt (bestOf_mem hwb)
        have HW : Hid (worstR g.m = ((k : Int), balF g.m (cellsM g.m) k, 0)) := by show _ = _; rw [HW0.out, hwb]
        have k1 : (k : Int) < 64 := by omega
        have hcell := HC9.at (arrF_get f hk64)
        rw [show bestI (some k) = (k : Int) from rfl]
        clear HW0 HBEST hwb
        go_wp2_with fail
        go_quiet (fail)
        go_wp2_with fail
        refine ret_tmp3 rfl rfl ?_
        exact ⟨f k, by rw [HW.out]; rfl, by rw [HW.out, ← HF.out]; exact (fm_of hk64).symm, below_drawn HB9.out _⟩

/-- The callees' words. -/
def SW (h f : Bool) (g : FuncId) (args : Array Value) (v : Value) : Prop :=
  (g = 111 ∧ v = .bool h) ∨ (g = 119 ∧ v = .bool f) ∨ (g = 112 ∧ ∃ a r, args = #[.float .f32 a] ∧ v = .float .f32 r ∧ Is r (fabs (fb a)))

def WorstRelS (m : M) (d : Nat → F) (w : World) (v7 v8 : Value) (wr : World) : Prop :=
  ∃ (k : Nat) (z : Int), k ≤ 64 ∧ v8 = .int .i64 k ∧ v7 = .int .i64 z ∧ z = bestI (bestOf d (freeL m k)) ∧ Below w.heap.size w wr

set_option maxRecDepth 100000 in
set_option maxHeartbeats 3200000 in
theorem specWorstBalance_any (g : G) (w : World) (hr : g.Rng) (hx : g.Fx) :
    Calls Try.prog 77 #[.agg (arrG g)] w (RetIFI (worstR g.m) w) := by
  cases hok : okI g.m
  · have HW : Hid (worstR g.m = (0, some 0, 1)) := by show _ = _; unfold worstR; rw [hok]; rfl
    have HOK := Lib.hid hok
    clear hok hx
    go_enter Try.func77, Try.ntmps77
    go_wp2_with (with_reducible refine wpList_box rfl ?_)
    intro b w1 hB1 hB2 hB3 hB4
    go_wp2_with fail
    refine (l01Ok_any b 0 g w1 hr (GAt.of_blk hB3)).mono ?_
    rw [HOK.out]
    rintro e w3 ⟨rfl, hb3⟩
    have HB := Lib.hid (hB4.trans (hb3.mono hB4.size))
    clear hB3 hB4 hb3
    go_wp2_with fail
    refine ret_tmp3 rfl rfl ?_
    exact ⟨0, by rw [HW.out]; rfl, by rw [HW.out]; exact fb0, HB.out⟩
  · have hs := sane_of hok hx
    cases hbo : balOk g.m (cellsM g.m)
    · have HW : Hid (worstR g.m = (0, some 0, 4)) := by show _ = _; unfold worstR; rw [hok, hbo]; rfl
      have HOK := Lib.hid hok
      have HBO := Lib.hid hbo
      clear hok hbo
      go_enter Try.func77, Try.ntmps77
      go_wp2_with (with_reducible refine wpList_box rfl ?_)
      intro b w1 hB1 hB2 hB3 hB4
      go_wp2_with fail
      refine (l01Ok_any b 0 g w1 hr (GAt.of_blk hB3)).mono ?_
      rw [HOK.out]
      rintro e w3 ⟨rfl, hb3⟩
      have HG := hB3.later hb3
      have HB := Lib.hid (hB4.trans (hb3.mono hB4.size))
      clear hB3 hB4 hb3
      go_wp2_with fail
      refine (l01Balances_any b 0 g w3 hr hs.hW hs.hH (GAt.of_blk HG)).mono ?_
      rintro e w4 ⟨f, rfl, hf, hb4⟩
      rw [HBO.out]
      have HB4 := Lib.hid (HB.out.trans (hb4.mono HB.out.size))
      clear hb4 HG hf
      go_wp2_with (first | (with_reducible refine wpList_new newF ?_) | (with_reducible refine wpList_zero (zeroF _) ?_) | (with_reducible refine wpList_new newG ?_) | (with_reducible refine wpList_zero (zeroG _) ?_))
      intro C w5 hC1 hC2 hC3 hC4
      go_wp2_with ((with_reducible refine wpList_putF (f := f) hC3 ?_ ?_ ?_); rfl; rfl)
      intro w6 s6 b6 k6
      have HB6 := Lib.hid (below_grown (HB4.out.trans (hC4.mono HB4.out.size)) k6 (Nat.le_trans HB4.out.size hC4.size) (by have := HB4.out.size; omega))
      clear hC3 hC4 k6 b6
      go_wp2_with fail
      refine ret_tmp3 rfl rfl ?_
      exact ⟨0, by rw [HW.out]; rfl, by rw [HW.out]; exact fb0, HB6.out⟩
    · have HOK := Lib.hid hok
      have HBO := Lib.hid hbo
      have HW0 : Hid (worstR g.m = (match worstB g.m with | none => (0, some 0, 6) | some b => ((b : Int), balF g.m (cellsM g.m) b, 0))) := by show _ = _; unfold worstR; rw [hok, hbo]; rfl
      clear hok
      go_enter Try.func77, Try.ntmps77
      go_wp2_with (with_reducible refine wpList_box rfl ?_)
      intro b w1 hB1 hB2 hB3 hB4
      go_wp2_with fail
      refine (l01Ok_any b 0 g w1 hr (GAt.of_blk hB3)).mono ?_
      rw [HOK.out]
      rintro e w3 ⟨rfl, hb3⟩
      have HG := hB3.later hb3
      have HB := Lib.hid (hB4.trans (hb3.mono hB4.size))
      clear hB3 hB4 hb3
      go_wp2_with fail
      refine (l01Balances_any b 0 g w3 hr hs.hW hs.hH (GAt.of_blk HG)).mono ?_
      rintro e w4 ⟨f, rfl, hf, hb4⟩
      rw [HBO.out]
      have HF := Lib.hid (hf hbo)
      have HG4 := HG.later hb4
      have HB4 := Lib.hid (HB.out.trans (hb4.mono HB.out.size))
      clear hb4 HG hf hbo
      go_wp2_with (first | (with_reducible refine wpList_new newF ?_) | (with_reducible refine wpList_zero (zeroF _) ?_) | (with_reducible refine wpList_new newG ?_) | (with_reducible refine wpList_zero (zeroG _) ?_))
      intro C w5 hC1 hC2 hC3 hC4
      have HG5 := HG4.later hC4
      have hbC : b < C := by have := HG4.lt; omega
      go_wp2_with ((with_reducible refine wpList_putF (f := f) hC3 ?_ ?_ ?_); rfl; rfl)
      intro w6 s6 b6 k6
      have HG6 := Lib.hid (GAt.of_blk (HG5.grown k6 (by omega)))
      have HB6 := Lib.hid (below_grown (HB4.out.trans (hC4.mono HB4.out.size)) k6 (Nat.le_trans HB4.out.size hC4.size) (by have := HB4.out.size; omega))
      have HC6 := Lib.hid b6
      clear hC3 hC4 k6 HG4 HG5 b6
      go_wp2_with fail
      go_loopw [7, 8] (fun v7 v8 wr => WorstRelS g.m (fm f) w6 v7 v8 wr) (fun _ v8 _ => 64 - (intOf v8).toNat)
      case atStart => exact ⟨0, -1, by omega, rfl, rfl, rfl, Below.refl _ _⟩
      case round =>
        obtain ⟨k, z, hk, rfl, rfl, hz, hBel⟩ := hrel
        have HZ := Lib.hid hz
        have HBw := Lib.hid hBel
        have HG := Lib.hid (HG6.out.below hBel)
        have HC := Lib.hid (HC6.out.later hBel)
        clear hz hBel
        by_cases hlt : k < 64
        · have k1 : (k : Int) < 64 := by omega
          have hgt := order_gt
          have q1 := fun x => ext_cell wr x (HC.out.at (arrF_get f hlt))
          cases hh : hasB g.wide g.high k
          · have HH := Lib.hid hh
            clear hh
            go_wp2_with fail
            refine wp_soft (SW false (fixB g.fixed k)) (by kernel_rfl) (by kernel_rfl) ?_
            have HX : Hid (fixB g.fixed k = fixB g.fixed k) := rfl
            repeat (first | (refine soft_step (fun K hK => ?_); go_simp; (try go_bits); refine hK _ ?_; clear hK K) | (refine soft_step (fun K hK => ?_); go_simp; refine ⟨_, _, ⟨rfl, rfl⟩, fun x => ?_, ?_⟩; (first | ((with_reducible refine (l01Is_any b 0 k g _ hlt hr (HG.out.below (ext_below _ x))).mono ?_); rw [HH.out]; rintro e w' ⟨he, hw⟩; exact ⟨_, he, .inl ⟨rfl, rfl⟩, hw ▸ Below.refl _ _⟩) | ((with_reducible refine (l01Fixed_any b 0 k g _ hlt hs (HG.out.below (ext_below _ x))).mono ?_); rw [HX.out]; rintro e w' ⟨he, hw⟩; exact ⟨_, he, .inr (.inl ⟨rfl, rfl⟩), hw ▸ Below.refl _ _⟩) | ((with_reducible refine (l01Size_any _ _ _ Is.rfl).mono ?_); rintro e w1 ⟨r, he, hr1, hb⟩; exact ⟨_, he, .inr (.inr ⟨rfl, _, r, rfl, rfl, hr1⟩), hb⟩)); rintro v hv; rcases hv with ⟨e, rfl⟩ | ⟨e, rfl⟩ | ⟨e, a9, r, e2, rfl, hrr⟩; (any_goals (first | exact absurd e (by decide) | skip)); (try cases e2); refine hK _ ?_; clear hK K))
            refine soft_nil ?_
            rintro w7 hw7
            have HB7 := Lib.hid (HBw.out.trans (hw7.below.mono HBw.out.size))
            clear hw7 q1
            go_wp2_with fail
            go_roundw
            case rel => exact ⟨k + 1, z, by omega, by go_num, rfl, by rw [freeL_no (m := g.m) HH.out]; exact HZ.out, HB7.out⟩
            case measure => simp [intOf]; omega
          · have HH := Lib.hid hh
            clear hh
            cases hx1 : fixB g.fixed k
            · have HX := Lib.hid hx1
              clear hx1
              cases hbb : bestOf (fm f) (freeL g.m k) with
              | none =>
                obtain rfl : z = -1 := by rw [HZ.out, hbb]; rfl
                have HS : Hid (bestOf (fm f) (freeL g.m (k + 1)) = some k) := by show _ = _; rw [freeL_yes (m := g.m) HH.out HX.out, bestOf_snoc, hbb]; rfl
                clear hbb HZ
                go_wp2_with fail
                refine wp_soft (SW true false) (by kernel_rfl) (by kernel_rfl) ?_
                repeat (first | (refine soft_step (fun K hK => ?_); go_simp; (try go_bits); refine hK _ ?_; clear hK K) | (refine soft_step (fun K hK => ?_); go_simp; refine ⟨_, _, ⟨rfl, rfl⟩, fun x => ?_, ?_⟩; (first | ((with_reducible refine (l01Is_any b 0 k g _ hlt hr (HG.out.below (ext_below _ x))).mono ?_); rw [HH.out]; rintro e w' ⟨he, hw⟩; exact ⟨_, he, .inl ⟨rfl, rfl⟩, hw ▸ Below.refl _ _⟩) | ((with_reducible refine (l01Fixed_any b 0 k g _ hlt hs (HG.out.below (ext_below _ x))).mono ?_); rw [HX.out]; rintro e w' ⟨he, hw⟩; exact ⟨_, he, .inr (.inl ⟨rfl, rfl⟩), hw ▸ Below.refl _ _⟩) | ((with_reducible refine (l01Size_any _ _ _ Is.rfl).mono ?_); rintro e w1 ⟨r, he, hr1, hb⟩; exact ⟨_, he, .inr (.inr ⟨rfl, _, r, rfl, rfl, hr1⟩), hb⟩)); rintro v hv; rcases hv with ⟨e, rfl⟩ | ⟨e, rfl⟩ | ⟨e, a9, r, e2, rfl, hrr⟩; (any_goals (first | exact absurd e (by decide) | skip)); (try cases e2); refine hK _ ?_; clear hK K))
                refine soft_nil ?_
                rintro w7 hw7
                have HB7 := Lib.hid (HBw.out.trans (hw7.below.mono HBw.out.size))
                clear hw7 q1
                go_wp2_with fail
                go_roundw
                case rel => exact ⟨k + 1, k, by omega, by go_num, rfl, by rw [HS.out]; rfl, HB7.out⟩
                case measure => simp [intOf]; omega
              | some bb =>
                have hb64 : bb < 64 := by have := freeL_lt (bestOf_mem hbb); omega
                have b1 : (bb : Int) < 64 := by omega
                obtain rfl : z = (bb : Int) := by rw [HZ.out, hbb]; rfl
                have q2 := fun x => ext_cell wr x (HC.out.at (arrF_get f hb64))
                have HS : Hid (bestOf (fm f) (freeL g.m (k + 1)) = bestStep (fm f) (some bb) k) := by show _ = _; rw [freeL_yes (m := g.m) HH.out HX.out, bestOf_snoc, hbb]
                have HBB := Lib.hid hbb
                clear hbb HZ
                go_wp2_with fail
                refine wp_soft (SW true false) (by kernel_rfl) (by kernel_rfl) ?_
                repeat (first | (refine soft_step (fun K hK => ?_); go_simp; (try go_bits); refine hK _ ?_; clear hK K) | (refine soft_step (fun K hK => ?_); go_simp; refine ⟨_, _, ⟨rfl, rfl⟩, fun x => ?_, ?_⟩; (first | ((with_reducible refine (l01Is_any b 0 k g _ hlt hr (HG.out.below (ext_below _ x))).mono ?_); rw [HH.out]; rintro e w' ⟨he, hw⟩; exact ⟨_, he, .inl ⟨rfl, rfl⟩, hw ▸ Below.refl _ _⟩) | ((with_reducible refine (l01Fixed_any b 0 k g _ hlt hs (HG.out.below (ext_below _ x))).mono ?_); rw [HX.out]; rintro e w' ⟨he, hw⟩; exact ⟨_, he, .inr (.inl ⟨rfl, rfl⟩), hw ▸ Below.refl _ _⟩) | ((with_reducible refine (l01Size_any _ _ _ Is.rfl).mono ?_); rintro e w1 ⟨r, he, hr1, hb⟩; exact ⟨_, he, .inr (.inr ⟨rfl, _, r, rfl, rfl, hr1⟩), hb⟩)); rintro v hv; rcases hv with ⟨e, rfl⟩ | ⟨e, rfl⟩ | ⟨e, a9, r, e2, rfl, hrr⟩; (any_goals (first | exact absurd e (by decide) | skip)); (try cases e2); refine hK _ ?_; clear hK K))
                refine soft_nil ?_
                rename_i rc hrc
                rintro w7 hw7
                have HB7 := Lib.hid (HBw.out.trans (hw7.below.mono HBw.out.size))
                have hG : fgt (fb rc) (fb r) = fgt (fabs (fm f k)) (fabs (fm f bb)) := by rw [hrc.out, hrr.out, fm_of hlt, fm_of hb64]
                clear hw7 q1 q2 hrc hrr
                go_wp2_with fail
                · rename_i h
                  have hT : fgt (fabs (fm f k)) (fabs (fm f bb)) = true := by
                    rw [← hG]
                    rcases h with h | h
                    · omega
                    · exact h
                  have HS2 : Hid (bestOf (fm f) (freeL g.m (k + 1)) = some k) := by show _ = _; rw [HS.out]; show (if fgt (fabs (fm f k)) (fabs (fm f bb)) then some k else some bb) = _; rw [hT]; rfl
                  clear hT
                  go_roundw
                  case rel => exact ⟨k + 1, k, by omega, by go_num, rfl, by rw [HS2.out]; rfl, HB7.out⟩
                  case measure => simp [intOf]; omega
                · rename_i h
                  have hT : fgt (fabs (fm f k)) (fabs (fm f bb)) = false := by rw [← hG]; exact h.2
                  have HS2 : Hid (bestOf (fm f) (freeL g.m (k + 1)) = some bb) := by show _ = _; rw [HS.out]; show (if fgt (fabs (fm f k)) (fabs (fm f bb)) then some k else some bb) = _; rw [hT]; rfl
                  clear hT
                  go_roundw
                  case rel => exact ⟨k + 1, bb, by omega, by go_num, rfl, by rw [HS2.out]; rfl, HB7.out⟩
                  case measure => simp [intOf]; omega
            · have HX := Lib.hid hx1
              clear hx1
              go_wp2_with fail
              refine wp_soft (SW true true) (by kernel_rfl) (by kernel_rfl) ?_
              repeat (first | (refine soft_step (fun K hK => ?_); go_simp; (try go_bits); refine hK _ ?_; clear hK K) | (refine soft_step (fun K hK => ?_); go_simp; refine ⟨_, _, ⟨rfl, rfl⟩, fun x => ?_, ?_⟩; (first | ((with_reducible refine (l01Is_any b 0 k g _ hlt hr (HG.out.below (ext_below _ x))).mono ?_); rw [HH.out]; rintro e w' ⟨he, hw⟩; exact ⟨_, he, .inl ⟨rfl, rfl⟩, hw ▸ Below.refl _ _⟩) | ((with_reducible refine (l01Fixed_any b 0 k g _ hlt hs (HG.out.below (ext_below _ x))).mono ?_); rw [HX.out]; rintro e w' ⟨he, hw⟩; exact ⟨_, he, .inr (.inl ⟨rfl, rfl⟩), hw ▸ Below.refl _ _⟩) | ((with_reducible refine (l01Size_any _ _ _ Is.rfl).mono ?_); rintro e w1 ⟨r, he, hr1, hb⟩; exact ⟨_, he, .inr (.inr ⟨rfl, _, r, rfl, rfl, hr1⟩), hb⟩)); rintro v hv; rcases hv with ⟨e, rfl⟩ | ⟨e, rfl⟩ | ⟨e, a9, r, e2, rfl, hrr⟩; (any_goals (first | exact absurd e (by decide) | skip)); (try cases e2); refine hK _ ?_; clear hK K))
              refine soft_nil ?_
              rintro w7 hw7
              have HB7 := Lib.hid (HBw.out.trans (hw7.below.mono HBw.out.size))
              clear hw7 q1
              go_wp2_with fail
              go_roundw
              case rel => exact ⟨k + 1, z, by omega, by go_num, rfl, by rw [freeL_fix (m := g.m) HH.out HX.out]; exact HZ.out, HB7.out⟩
              case measure => simp [intOf]; omega
        · have hk64 : k = 64 := by omega
          have HZ2 : Hid (z = bestI (worstB g.m)) := by show _ = _; rw [HZ.out, hk64]; show bestI (bestOf (fm f) (freeL g.m 64)) = _; rw [HF.out]; rfl
          clear HZ hk64
          cases hwb : worstB g.m with
          | none =>
            have HW : Hid (worstR g.m = (0, some 0, 6)) := by show _ = _; rw [HW0.out, hwb]
            obtain rfl : z = -1 := by rw [HZ2.out, hwb]; rfl
            clear HW0 HZ2 hwb
            go_wp2_with fail
            refine ret_tmp3 rfl rfl ?_
            exact ⟨0, by rw [HW.out]; rfl, by rw [HW.out]; exact fb0, HB6.out.trans (HBw.out.mono HB6.out.size)⟩
          | some kk =>
            have hk64 : kk < 64 := by
              unfold worstB at hwb
              exact freeL_lt (bestOf_mem hwb)
            have HW : Hid (worstR g.m = ((kk : Int), balF g.m (cellsM g.m) kk, 0)) := by show _ = _; rw [HW0.out, hwb]
            have k1 : (kk : Int) < 64 := by omega
            have hcell := HC.out.at (arrF_get f hk64)
            obtain rfl : z = (kk : Int) := by rw [HZ2.out, hwb]; rfl
            clear HW0 HZ2 hwb
            go_wp2_with fail
            go_quiet (fail)
            go_wp2_with fail
            refine ret_tmp3 rfl rfl ?_
            exact ⟨f kk, by rw [HW.out]; rfl, by rw [HW.out, ← HF.out]; exact (fm_of hk64).symm, below_drawn (HB6.out.trans (HBw.out.mono HB6.out.size)) _⟩
end Go.Proofs.Ytfcphfdfpjmgiaa
