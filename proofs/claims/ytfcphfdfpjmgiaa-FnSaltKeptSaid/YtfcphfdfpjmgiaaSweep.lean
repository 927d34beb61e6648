/- Sweeps: cells settled one by one, and all at once. -/
import Derived.Test.YtfcphfdfpjmgiaaSwept
namespace Go.Proofs.Ytfcphfdfpjmgiaa
open Go.RowKit

def setH (m : M) (c : Nat) (x : F) : M := { m with h := upd m.h c x }
def swp (m : M) (l : List Nat) : M := l.foldl (fun m c => setH m c (head m c)) m
def once (m0 : M) (l : List Nat) : M := l.foldl (fun m c => setH m c (head m0 c)) m0
theorem swp_snoc (m : M) (l : List Nat) (c : Nat) : swp m (l ++ [c]) = setH (swp m l) c (head (swp m l) c) := by simp [swp]
theorem once_snoc (m : M) (l : List Nat) (c : Nat) : once m (l ++ [c]) = setH (once m l) c (head m c) := by simp [once]
theorem m_setH (g : G) {c : Nat} (hc : c < 64) (r : Nat) : G.m { g with h := upd g.h c r } = setH g.m c (fb r) := by
  unfold G.m setH; simp only; rw [fm_upd hc]
theorem setH_sane {m : M} (h : m.Sane) (c : Nat) (x : F) : (setH m c x).Sane := ⟨h.lW, h.lH, h.hW, h.hH, h.f0, h.f1⟩
theorem swp_sane {m : M} (h : m.Sane) : ∀ l : List Nat, (swp m l).Sane := by
  intro l
  unfold swp
  suffices ∀ (l : List Nat) (m : M), m.Sane → (l.foldl (fun m c => setH m c (head m c)) m).Sane from this l m h
  intro l
  induction l with
  | nil => intro m h; exact h
  | cons c l ih => intro m h; exact ih _ (setH_sane h _ _)
theorem once_sane {m : M} (h : m.Sane) : ∀ l : List Nat, (once m l).Sane := by
  intro l
  unfold once
  suffices ∀ (l : List Nat) (m' : M), m'.Sane → (l.foldl (fun m' c => setH m' c (head m c)) m').Sane from this l m h
  intro l
  induction l with
  | nil => intro m h; exact h
  | cons c l ih => intro m h; exact ih _ (setH_sane h _ _)

def SwpRel (m : M) (l : List Nat) (w1 : World) (B : Nat) (v15 : Value) (wr : World) : Prop :=
  ∃ (j : Nat) (g : G), j ≤ l.length ∧ v15 = .int .i64 j ∧ g.m = swp m (l.take j) ∧ Blk wr B (arrG g) 30 ∧ w1.grownBy wr (some B)

theorem list_below {w w' : World} {v : Value} {l : List Nat} (h : ListAt w v l) (hb : Below w.heap.size w w') : ListAt w' v l := by
  obtain ⟨a, cap, rfl, hL⟩ := h
  refine ⟨a, cap, rfl, fun j c hc => ?_⟩
  obtain ⟨gq, h1, h2⟩ := hL j c hc
  exact ⟨gq, h1, cell_below hb h2⟩

set_option maxRecDepth 100000 in
set_option maxHeartbeats 800000 in
theorem sweep_any (b : Nat) (t : TypeId) (v : Value) (l : List Nat) (g : G) (w : World) (hs : g.Sane) (hl : ∀ c ∈ l, c < 64) (hlen : l.length ≤ 64) (hv : ListAt w v l) (hg : Blk w b (arrG g) t) :
    Calls Try.prog 101 #[.pointer (some ⟨b, 0, none⟩), v] w (RetGF (swM (swp g.m l)) (swX g.m (swp g.m l)) (swC (swp g.m l)) w) := by
  have hbl : b < w.heap.size := hg.lt
  obtain ⟨aL, cap, rfl, hL⟩ := hv
  go_enter Try.func101, Try.ntmps101
  go_wp2_with (first | (with_reducible refine wpList_new newF ?_) | (with_reducible refine wpList_zero (zeroF _) ?_) | (with_reducible refine wpList_new newG ?_) | (with_reducible refine wpList_zero (zeroG _) ?_))
  intro A wA hA1 hA2 hA3 hA4
  have h1 := hg.later hA4
  go_wp2_with (first | ((with_reducible refine wpList_getG h1 ?_ ?_); rfl) | (with_reducible refine wpList_new newF ?_) | (with_reducible refine wpList_zero (zeroF _) ?_) | (with_reducible refine wpList_new newG ?_) | (with_reducible refine wpList_zero (zeroG _) ?_))
  intro B wB hB1 hB2 hB3 hB4
  have h2 := h1.later hB4
  go_wp2_with (refine wpList_putG hB3 rfl rfl ?_)
  intro wC hC1 hC2 hC3
  have HGb := Lib.hid (h2.grown hC3 (by omega))
  have HBW := Lib.hid (below_grown (hA4.trans (hB4.mono hA4.size)) hC3 (Nat.le_trans hA4.size hB4.size) (by omega))
  have HA3 := Lib.hid ((hA3.later hB4).grown hC3 (by omega))
  have HB3 := Lib.hid hC2
  have HAB : A < B := by omega
  have HwA : w.heap.size ≤ A := hA1
  have HL : Hid (∀ (j c : Nat), l[j]? = some c → ∃ gq, aL = some ⟨gq, 0, none⟩ ∧ gq < w.heap.size ∧ wC.cell? ⟨gq, j, none⟩ = some (.int .i64 c)) := by
    intro j c hc
    obtain ⟨gq, e1, e2⟩ := hL j c hc
    have hq : gq < w.heap.size := block_lt_of_cell e2
    exact ⟨gq, e1, hq, cell_grown (cell_below hB4 (cell_below hA4 e2)) hC3 (by omega)⟩
  clear hL hA3 hA4 h1 h2 hB3 hB4 hC2 hC3 hg
  go_wp2_with fail
  go_loopw [15] (fun v15 wr => SwpRel g.m l wC B v15 wr) (fun v15 _ => l.length - (intOf v15).toNat)
  case atStart => exact ⟨0, g, by omega, rfl, rfl, HB3.out, grown_refl _ _⟩
  case round =>
    obtain ⟨j, gg, hj, rfl, hm, hB, hgr⟩ := hrel
    have HM := Lib.hid hm
    have hsg : gg.Sane := M.Sane.g (by rw [hm]; exact swp_sane hs.m _)
    have HB := Lib.hid hB
    have HGR := Lib.hid hgr
    clear hm hB hgr
    by_cases hlt : j < l.length
    · obtain ⟨c, hc⟩ : ∃ c, l[j]? = some c := ⟨_, List.getElem?_eq_getElem hlt⟩
      have hc64 : c < 64 := hl c (List.mem_of_getElem? hc)
      have hj64 : j < 64 := by omega
      obtain ⟨gq, rfl, hq1, hq3⟩ := HL.out j c hc
      have hcell := cell_grown hq3 HGR.out (by omega)
      have HC := Lib.hid hc
      have hc64' : (c : Int) < 64 := by omega
      have hlt' : (j : Int) < (l.length : Int) := by omega
      clear hq3 hc
      go_wp2_with fail
      refine (settled_any B 0 c gg wr hc64 hsg (GAt.of_blk HB.out)).mono ?_
      rintro e w2 ⟨r, rfl, hr, hb2⟩
      have HB2 := HB.out.later hb2
      have HR := Lib.hid hr
      clear hr
      go_wp2_with (refine wpList_setH HB2 hc64 rfl rfl ?_)
      intro w3 h31 h32 h33
      have H32 := Lib.hid h32
      have HG3 := Lib.hid ((grown_trans (grown_trans HGR.out (grown_below hb2)) h33 : wC.grownBy w3 (some B)))
      have HM3 : Hid (G.m { gg with h := upd gg.h c r } = swp g.m (l.take (j + 1))) := by
        show G.m _ = _
        rw [take_more HC.out, swp_snoc, m_setH gg hc64, HR.out.out, HM.out]
      clear h32 hb2 HB2 h33 hcell
      go_wp2_with fail
      go_roundw
      case rel => exact ⟨j + 1, _, by omega, by go_num, HM3.out, H32.out, HG3.out⟩
      case measure => simp [intOf]; omega
    · have hjn : j = l.length := by omega
      have hlt' : ¬ (j : Int) < (l.length : Int) := by omega
      have HM2 : Hid (gg.m = swp g.m l) := by
        have := HM.out
        rw [List.take_of_length_le (Nat.le_of_eq hjn.symm)] at this; exact this
      have hG := (HGb.out.grown HGR.out (by have := HB3.out.lt; omega))
      have HAr := Lib.hid (HA3.out.grown HGR.out (by omega))
      have HBr := Lib.hid (below_grown HBW.out HGR.out HBW.out.size (by omega))
      clear hjn
      go_wp2_with fail
      refine (toldGround_any b 0 B _ g gg wr hs hsg.rng (GAt.of_blk hG) HB.out).mono ?_
      rw [HM2.out]
      rintro e w4 ⟨go, r, rfl, hm4, hr4, hb4⟩
      have HA4 := HAr.out.later hb4
      have HB4 := Lib.hid (HBr.out.trans (hb4.mono HBr.out.size))
      clear hb4 hG
      go_wp2_with (first | (with_reducible refine wpList_new newF ?_) | (with_reducible refine wpList_zero (zeroF _) ?_) | (with_reducible refine wpList_new newG ?_) | (with_reducible refine wpList_zero (zeroG _) ?_) | ((with_reducible refine wpList_putG (g := go) HA4 ?_ ?_ ?_); rfl; rfl))
      intro w5 h51 h52 h53
      go_wp2_with fail
      exact ret_cell3 rfl rfl (loadG h52) rfl ⟨go, r, rfl, hm4, hr4, below_grown HB4.out h53 HB4.out.size (by omega)⟩
end Go.Proofs.Ytfcphfdfpjmgiaa
