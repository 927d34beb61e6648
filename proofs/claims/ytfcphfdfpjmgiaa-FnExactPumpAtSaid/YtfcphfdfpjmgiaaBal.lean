/- The balance of a cell. -/
import Derived.Test.YtfcphfdfpjmgiaaFlow
namespace Go.Proofs.Ytfcphfdfpjmgiaa
open Go.RowKit

theorem GAt.below {w w' : World} {b o : Nat} {g : G} (h : GAt w b o g) (hb : Below w.heap.size w w') : GAt w' b o g := fun i hi => by
  have h1 := h i hi
  have h2 : b < w.heap.size := block_lt_of_cell h1
  rw [← h1]; exact hb.cell (p := ⟨b, o + i, none⟩) h2

theorem cell_below {w w' : World} {b o : Nat} {v : Value} (h : Below w.heap.size w w') (hc : w.cell? ⟨b, o, none⟩ = some v) : w'.cell? ⟨b, o, none⟩ = some v := by
  rw [← hc]; exact h.cell (p := ⟨b, o, none⟩) (block_lt_of_cell hc)

theorem Is.op {r a b : Nat} {op : BinOp} {A B : F} (h : Is r (fop op (fb a) (fb b))) (ha : Is a A) (hb : Is b B) : Is r (fop op A B) := by
  rw [ha.out, hb.out] at h; exact h

def balTo (m : M) (k : Nat) : Nat → F
  | 0 => m.g k
  | s + 1 => if 0 ≤ beside m.wide m.high k s then fsub (balTo m k s) (flow m k s) else balTo m k s

theorem balTo_yes {g : M} {k s : Nat} (h : 0 ≤ beside g.wide g.high k s) : balTo g k (s + 1) = fsub (balTo g k s) (flow g k s) := if_pos h
theorem balTo_no {g : M} {k s : Nat} (h : ¬ 0 ≤ beside g.wide g.high k s) : balTo g k (s + 1) = balTo g k s := if_neg h

def BalRel (g : G) (k : Nat) (w : World) (v5 v13 : Value) (wr : World) : Prop := ∃ s r : Nat, s ≤ 4 ∧ v13 = .int .i64 s ∧ v5 = .float .f32 r ∧ Is r (balTo g.m k s) ∧ Below w.heap.size w wr

set_option maxRecDepth 100000 in
set_option maxHeartbeats 400000 in
theorem balance_any (b o k : Nat) (g : G) (w : World) (hk : k < 64) (hr : g.Rng) (hW : g.wide ≤ 8) (hH : g.high ≤ 8) (hg : GAt w b o g) :
    Calls Try.prog 116 #[.pointer (some ⟨b, o, none⟩), .int .i64 k] w (RetF (balTo g.m k 4) w) := by
  have c1 := hg.g hk
  have k1 : (k : Int) < 64 := by omega
  go_enter Try.func116, Try.ntmps116
  go_wp2_with fail
  go_loopw [5, 13] (fun v5 v13 wr => BalRel g k w v5 v13 wr) (fun _ v13 _ => 4 - (intOf v13).toNat)
  case atStart => exact ⟨0, g.g k, by omega, rfl, rfl, (fm_of hk).symm, Below.refl _ _⟩
  case round =>
    obtain ⟨s, r, hs, rfl, rfl, hr, hB⟩ := hrel
    have HG := Lib.hid (hg.below hB)
    have HB := Lib.hid hB
    clear hB hg
    by_cases hlt : s < 4
    · by_cases hb : 0 ≤ beside g.wide g.high k s
      · go_wp2_with (first | (go_at_call 164; refine (beside_any b o k s g _ hk hlt (by assumption) HG.out).mono ?_; rintro e w' ⟨rfl, rfl⟩) | (go_at_call 148; refine (flow_any b o k s g _ hk hlt (by assumption) (by assumption) (by assumption) HG.out).mono ?_; rintro e w1 ⟨r1, rfl, hr1, hb1⟩; have HB1 := Lib.hid hb1; clear hb1) | (refine wpList_arith _ _ rfl rfl rfl ?_; intro r2 n2 hr2))
        go_roundw
        case rel => exact ⟨s + 1, r2, by omega, by go_num, rfl, by rw [balTo_yes (g := g.m) hb]; exact hr2.op hr hr1, below_drawn (HB.out.trans (HB1.out.mono HB.out.size)) _⟩
        case measure => simp [intOf]; omega
      · go_wp2_with (first | (go_at_call 164; refine (beside_any b o k s g _ hk hlt (by assumption) HG.out).mono ?_; rintro e w' ⟨rfl, rfl⟩))
        go_roundw
        case rel => exact ⟨s + 1, r, by omega, by go_num, rfl, by rw [balTo_no (g := g.m) (by show ¬ 0 ≤ beside g.wide g.high k s; omega)]; exact hr, HB.out⟩
        case measure => simp [intOf]; omega
    · go_wp2
      obtain rfl : s = 4 := by omega
      go_ret
      exact ⟨r, rfl, hr, HB.out⟩
end Go.Proofs.Ytfcphfdfpjmgiaa
