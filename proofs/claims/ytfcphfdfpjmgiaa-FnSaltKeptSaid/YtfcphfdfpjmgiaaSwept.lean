/- A ground behind a sweep, with its greatest change and a code. -/
import Derived.Test.YtfcphfdfpjmgiaaChange
namespace Go.Proofs.Ytfcphfdfpjmgiaa
open Go.RowKit

/-- What is needed of a ground's numbers, said of the numbers. -/
structure M.Sane (m : M) : Prop where
  lW : 2 ≤ m.wide
  lH : 2 ≤ m.high
  hW : m.wide ≤ 8
  hH : m.high ≤ 8
  f0 : 0 ≤ m.fixed
  f1 : m.fixed < 18446744073709551616
theorem M.Sane.g {g : G} (h : g.m.Sane) : g.Sane := by
  have a := h.lW; have b := h.lH; have c := h.hW; have d := h.hH
  have e1 : g.m.wide = g.wide := rfl
  have e2 : g.m.high = g.high := rfl
  rw [e1] at a c
  rw [e2] at b d
  exact ⟨⟨by constructor <;> omega, by constructor <;> omega⟩, a, b, c, d, h.f0, h.f1⟩
theorem G.Sane.m {g : G} (h : g.Sane) : g.m.Sane := ⟨h.lW, h.lH, h.hW, h.hH, h.f0, h.f1⟩

def swM (m' : M) : M := if okI m' then m' else G0.m
def swX (m m' : M) : F := if okI m' then chg m m' else some 0
def swC (m' : M) : Int := if okI m' then 0 else 4

/-- A ground, a float and a code are handed back. -/
def RetGF (m : M) (x : F) (z : Int) (w : World) (e : Ending) (w' : World) : Prop :=
  ∃ gg r, e = .returned (.tuple #[.agg (arrG gg), .float .f32 r, .int .i64 z]) ∧ gg.m = m ∧ Is r x ∧ Below w.heap.size w w'

theorem soft_getG {ops : Array Oper} {S : FuncId → Array Value → Value → Prop} {Q : Act → Prop} {a : Act} {rest : List Oper} {dst : Option Tmp} {ty : TypeId} {X : Operand} {pos : String} {after : Array Edge} {w : World} {B : Nat} {t : TypeId} {g : G}
    (hg : Blk w B (arrG g) t) (hx : a.eval X = .pointer (some ⟨B, 0, none⟩)) (h : wpSoft Try.prog ops (InExt w) S Q rest (a.put dst (.agg (arrG g)))) :
    wpSoft Try.prog ops (InExt w) S Q (⟨dst, .load 30 X, ty, pos, after, none⟩ :: rest) a :=
  soft_value (.agg (arrG g)) rfl (fun w' hw' => by
    have := loadG (hg.later hw'.below)
    simp only [execOp, hx, Instr.loadAt, Instr.sureAddr]
    simp [this]) h

set_option maxRecDepth 100000 in
set_option maxHeartbeats 800000 in
theorem toldGround_any (b o b' : Nat) (t : TypeId) (g g' : G) (w : World) (hs : g.Sane) (hr' : g'.Rng) (hg : GAt w b o g) (hg' : Blk w b' (arrG g') t) :
    Calls Try.prog 154 #[.pointer (some ⟨b, o, none⟩), .pointer (some ⟨b', 0, none⟩)] w (RetGF (swM g'.m) (swX g.m g'.m) (swC g'.m) w) := by
  cases hok : okI g'.m
  · have HOK := Lib.hid hok
    clear hok
    go_enter Try.func154, Try.ntmps154
    go_wp2_with (first | (with_reducible refine wpList_new newF ?_) | (with_reducible refine wpList_zero (zeroF _) ?_) | (with_reducible refine wpList_new newG ?_) | (with_reducible refine wpList_zero (zeroG _) ?_))
    intro A w1 hA1 hA2 hA3 hA4
    have h1 := hg'.later hA4
    go_wp2_with ((with_reducible refine wpList_getG h1 ?_ ?_); rfl)
    refine (ValidGround_any g' w1 hr').mono ?_
    rw [HOK.out]
    rintro e w3 ⟨rfl, hb3⟩
    have HA3 := hA3.later hb3
    have HB := Lib.hid (hA4.trans (hb3.mono hA4.size))
    clear hA3 hA4 hb3 h1 hg' hg
    go_wp2_with (first | (with_reducible refine wpList_new newF ?_) | (with_reducible refine wpList_zero (zeroF _) ?_) | (with_reducible refine wpList_new newG ?_) | (with_reducible refine wpList_zero (zeroG _) ?_) | ((with_reducible refine wpList_putG (g := G0) HA3 ?_ ?_ ?_); rfl; rfl))
    intro w5 h51 h52 h53
    go_wp2_with fail
    refine ret_cell3 rfl rfl (loadG h52) rfl ⟨G0, 0, ?_, ?_, ?_, ?_⟩
    · unfold swC; rw [HOK.out]; rfl
    · unfold swM; rw [HOK.out]; rfl
    · unfold swX; rw [HOK.out]; exact fb0
    · exact below_grown HB.out h53 HB.out.size (by omega)
  · have HOK := Lib.hid hok
    clear hok
    go_enter Try.func154, Try.ntmps154
    go_wp2_with (first | (with_reducible refine wpList_new newF ?_) | (with_reducible refine wpList_zero (zeroF _) ?_) | (with_reducible refine wpList_new newG ?_) | (with_reducible refine wpList_zero (zeroG _) ?_))
    intro A w1 hA1 hA2 hA3 hA4
    have h1 := hg'.later hA4
    go_wp2_with ((with_reducible refine wpList_getG h1 ?_ ?_); rfl)
    refine (ValidGround_any g' w1 hr').mono ?_
    rw [HOK.out]
    rintro e w3 ⟨rfl, hb3⟩
    have HA3 := Lib.hid (hA3.later hb3)
    have hG' := h1.later hb3
    have HGat := Lib.hid (GAt.of_blk hG')
    have HG := Lib.hid ((hg.below hA4).below hb3)
    have HB := Lib.hid (hA4.trans (hb3.mono hA4.size))
    have hb' : b' < w1.heap.size := h1.lt
    clear hA3 hA4 hb3 h1 hg' hg
    go_wp2_with fail
    refine wp_soft_tail 6 (SF (chg g.m g'.m)) (by kernel_rfl) (by kernel_rfl) ?_
    simp only [List.take_succ_cons, List.take_zero, List.drop_succ_cons, List.drop_zero]
    repeat (first | ((with_reducible refine soft_getG hG' ?_ ?_); rfl) | (refine soft_step (fun K hK => ?_); go_simp; (try go_bits); refine hK _ ?_; clear hK K) | (refine soft_step (fun K hK => ?_); go_simp; refine ⟨_, _, ⟨rfl, rfl⟩, fun x => (change_any b o b' 0 g g' _ hs (HG.out.below (ext_below _ x)) (HGat.out.below (ext_below _ x))).mono ?_, ?_⟩; (rintro e w1 ⟨r, he, hr, hb⟩; exact ⟨_, he, ⟨r, rfl, hr⟩, hb⟩); rintro v ⟨r, rfl, hr⟩; refine hK _ ?_; clear hK K))
    refine soft_nil ?_
    rintro w4 hw4
    have HA4 := HA3.out.later hw4.below
    have HB4 := Lib.hid (HB.out.trans (hw4.below.mono HB.out.size))
    clear hw4 hG'
    go_wp2_with (first | (with_reducible refine wpList_new newF ?_) | (with_reducible refine wpList_zero (zeroF _) ?_) | (with_reducible refine wpList_new newG ?_) | (with_reducible refine wpList_zero (zeroG _) ?_) | ((with_reducible refine wpList_putG (g := g') HA4 ?_ ?_ ?_); rfl; rfl))
    intro w5 h51 h52 h53
    go_wp2_with fail
    refine ret_cell3 rfl rfl (loadG h52) rfl ⟨g', r, ?_, ?_, ?_, ?_⟩
    · unfold swC; rw [HOK.out]; rfl
    · unfold swM; rw [HOK.out]; rfl
    · unfold swX; rw [HOK.out]; exact hr
    · exact below_grown HB4.out h53 HB4.out.size (by omega)

set_option maxRecDepth 100000 in
set_option maxHeartbeats 800000 in
theorem l02Swept_any (b o b' : Nat) (t : TypeId) (g g' : G) (w : World) (hs : g.Sane) (hr' : g'.Rng) (hg : GAt w b o g) (hg' : Blk w b' (arrG g') t) :
    Calls Try.prog 156 #[.pointer (some ⟨b, o, none⟩), .pointer (some ⟨b', 0, none⟩)] w (RetGF (swM g'.m) (swX g.m g'.m) (swC g'.m) w) := by
  cases hok : okI g'.m
  · have HOK := Lib.hid hok
    clear hok
    go_enter Try.func156, Try.ntmps156
    go_wp2_with (first | (with_reducible refine wpList_new newF ?_) | (with_reducible refine wpList_zero (zeroF _) ?_) | (with_reducible refine wpList_new newG ?_) | (with_reducible refine wpList_zero (zeroG _) ?_))
    intro A w1 hA1 hA2 hA3 hA4
    have h1 := hg'.later hA4
    go_wp2_with fail
    refine (l01Ok_any b' 0 g' w1 hr' (GAt.of_blk h1)).mono ?_
    rw [HOK.out]
    rintro e w3 ⟨rfl, hb3⟩
    have HA3 := hA3.later hb3
    have HB := Lib.hid (hA4.trans (hb3.mono hA4.size))
    clear hA3 hA4 hb3 h1 hg' hg
    go_wp2_with (first | (with_reducible refine wpList_new newF ?_) | (with_reducible refine wpList_zero (zeroF _) ?_) | (with_reducible refine wpList_new newG ?_) | (with_reducible refine wpList_zero (zeroG _) ?_) | ((with_reducible refine wpList_putG (g := G0) HA3 ?_ ?_ ?_); rfl; rfl))
    intro w5 h51 h52 h53
    go_wp2_with fail
    refine ret_cell3 rfl rfl (loadG h52) rfl ⟨G0, 0, ?_, ?_, ?_, ?_⟩
    · unfold swC; rw [HOK.out]; rfl
    · unfold swM; rw [HOK.out]; rfl
    · unfold swX; rw [HOK.out]; exact fb0
    · exact below_grown HB.out h53 HB.out.size (by omega)
  · have HOK := Lib.hid hok
    clear hok
    go_enter Try.func156, Try.ntmps156
    go_wp2_with (first | (with_reducible refine wpList_new newF ?_) | (with_reducible refine wpList_zero (zeroF _) ?_) | (with_reducible refine wpList_new newG ?_) | (with_reducible refine wpList_zero (zeroG _) ?_))
    intro A w1 hA1 hA2 hA3 hA4
    have h1 := hg'.later hA4
    go_wp2_with fail
    refine (l01Ok_any b' 0 g' w1 hr' (GAt.of_blk h1)).mono ?_
    rw [HOK.out]
    rintro e w3 ⟨rfl, hb3⟩
    have HA3 := Lib.hid (hA3.later hb3)
    have hG' := h1.later hb3
    have HGat := Lib.hid (GAt.of_blk hG')
    have HG := Lib.hid ((hg.below hA4).below hb3)
    have HB := Lib.hid (hA4.trans (hb3.mono hA4.size))
    have hb' : b' < w1.heap.size := h1.lt
    clear hA3 hA4 hb3 h1 hg' hg
    go_wp2_with fail
    refine wp_soft_tail 6 (SF (chg g.m g'.m)) (by kernel_rfl) (by kernel_rfl) ?_
    simp only [List.take_succ_cons, List.take_zero, List.drop_succ_cons, List.drop_zero]
    repeat (first | ((with_reducible refine soft_getG hG' ?_ ?_); rfl) | (refine soft_step (fun K hK => ?_); go_simp; (try go_bits); refine hK _ ?_; clear hK K) | (refine soft_step (fun K hK => ?_); go_simp; refine ⟨_, _, ⟨rfl, rfl⟩, fun x => (l02Change_any b o b' 0 g g' _ hs (HG.out.below (ext_below _ x)) (HGat.out.below (ext_below _ x))).mono ?_, ?_⟩; (rintro e w1 ⟨r, he, hr, hb⟩; exact ⟨_, he, ⟨r, rfl, hr⟩, hb⟩); rintro v ⟨r, rfl, hr⟩; refine hK _ ?_; clear hK K))
    refine soft_nil ?_
    rintro w4 hw4
    have HA4 := HA3.out.later hw4.below
    have HB4 := Lib.hid (HB.out.trans (hw4.below.mono HB.out.size))
    clear hw4 hG'
    go_wp2_with (first | (with_reducible refine wpList_new newF ?_) | (with_reducible refine wpList_zero (zeroF _) ?_) | (with_reducible refine wpList_new newG ?_) | (with_reducible refine wpList_zero (zeroG _) ?_) | ((with_reducible refine wpList_putG (g := g') HA4 ?_ ?_ ?_); rfl; rfl))
    intro w5 h51 h52 h53
    go_wp2_with fail
    refine ret_cell3 rfl rfl (loadG h52) rfl ⟨g', r, ?_, ?_, ?_, ?_⟩
    · unfold swC; rw [HOK.out]; rfl
    · unfold swM; rw [HOK.out]; rfl
    · unfold swX; rw [HOK.out]; exact hr
    · exact below_grown HB4.out h53 HB4.out.size (by omega)
end Go.Proofs.Ytfcphfdfpjmgiaa
