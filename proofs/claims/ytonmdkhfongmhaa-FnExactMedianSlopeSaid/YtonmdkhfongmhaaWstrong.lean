/- The strongest of several wells: both sides. -/
import Derived.Test.YtonmdkhfongmhaaWsize
namespace Go.Proofs.Ytonmdkhfongmhaa
open Go.RowKit

/-- The numbers of a list by index. -/
def nth (xs : List F) (i : Nat) : F := xs.getD i none
theorem nth_map {bl : List Nat} {j c : Nat} (h : bl[j]? = some c) : nth (bl.map fb) j = fb c := by simp [nth, List.getD, h]
def bestN (xs : List F) (k : Nat) : Option Nat := bestOf (nth xs) (List.range k)
theorem bestN_succ (xs : List F) (k : Nat) : bestN xs (k + 1) = bestStep (nth xs) (bestN xs k) k := by
  unfold bestN
  rw [List.range_succ, bestOf_snoc]
theorem bestN_lt {xs : List F} {k b : Nat} (h : bestN xs k = some b) : b < k := List.mem_range.1 (bestOf_mem h)
theorem bestN_some (xs : List F) : ∀ k : Nat, ∃ b, bestN xs (k + 1) = some b
  | 0 => ⟨0, rfl⟩
  | k + 1 => by
    obtain ⟨b, hb⟩ := bestN_some xs k
    rw [bestN_succ, hb]
    unfold bestStep
    simp only
    split
    · exact ⟨_, rfl⟩
    · exact ⟨_, rfl⟩

/-- What is told of the strongest one. -/
structure StrR where
  i : Int
  x : F
  z : Int
def RetStr (t : StrR) (w : World) (e : Ending) (w' : World) : Prop := ∃ r, e = .returned (.tuple #[.int .i64 t.i, .float .f32 r, .int .i64 t.z]) ∧ Is r t.x ∧ Below w.heap.size w w'

theorem fmul_fits (x y : F) : Fits (fmul x y) := by
  intro b h
  cases x with
  | none => cases h
  | some p => cases y with
    | none => cases h
    | some q =>
      have h' : ((Ieee.single.read p).product (Ieee.single.read q)).map Ieee.single.write = some b := h
      cases hd : (Ieee.single.read p).product (Ieee.single.read q) with
      | none => rw [hd] at h'; cases h'
      | some d => rw [hd] at h'; cases h'; exact write_fits d (product_num hd)
theorem down_fits (T S R : F) (dx dy t : Int) : Fits (downF T S R dx dy t) := by
  unfold downF
  split
  · intro b h; cases h; decide
  · exact fmul_fits _ _

def StrongRel (bl : List Nat) (w : World) (v3 v8 : Value) (wr : World) : Prop :=
  ∃ (j : Nat) (z : Int), j ≤ bl.length ∧ v8 = .int .i64 j ∧ v3 = .int .i64 z ∧ z = bestI (bestN (bl.map fb) j) ∧ Below w.heap.size w wr
/-- A callee's word: alike with the size. -/
def SAlike (_ : FuncId) (args : Array Value) (v : Value) : Prop := ∃ a r, args = #[.float .f32 a] ∧ v = .float .f32 r ∧ SameOrd (fb r) (fabs (fb a))

set_option maxRecDepth 100000 in
set_option maxHeartbeats 1600000 in
theorem strongest_any (v : Value) (bl : List Nat) (w : World) (hlen : bl.length ≤ 64) (hv : FListAt w v bl) (hfit : ∀ c ∈ bl, Fits (fb c)) :
    Calls Try.prog 65 #[v] w (RetI .i64 (bestI (bestN (bl.map fb) bl.length)) w) := by
  obtain ⟨aL, cap, rfl, _, hL⟩ := hv
  have HL := Lib.hid hL
  have HFIT := Lib.hid hfit
  have hgt := order_gt
  clear hL hfit
  go_enter Try.func65, Try.ntmps65
  go_wp2_with fail
  go_loopw [3, 8] (fun v3 v8 wr => StrongRel bl w v3 v8 wr) (fun _ v8 _ => bl.length - (intOf v8).toNat)
  case atStart => exact ⟨0, -1, by omega, rfl, rfl, rfl, Below.refl _ _⟩
  case round =>
    obtain ⟨j, z, hj, rfl, rfl, hz, hB⟩ := hrel
    have HB := Lib.hid hB
    clear hB
    by_cases hlt : j < bl.length
    · obtain ⟨c, hc⟩ : ∃ c, bl[j]? = some c := ⟨_, List.getElem?_eq_getElem hlt⟩
      obtain ⟨gq, rfl, hq3⟩ := HL.out j c hc
      have hcell := cell_below HB.out hq3
      have HN := Lib.hid (nth_map hc)
      have HMORE := Lib.hid (bestN_succ (bl.map fb) j)
      have F1 : Hid (Fits (fb c)) := HFIT.out c (List.mem_of_getElem? hc)
      have j1 : (j : Int) < (bl.length : Int) := by omega
      clear hc hq3
      cases hbest : bestN (bl.map fb) j with
      | none =>
        rw [hbest] at HMORE hz
        obtain rfl : z = -1 := hz
        clear hbest
        go_wp2_with fail
        refine wp_soft SSize (by kernel_rfl) (by kernel_rfl) ?_
        repeat (refine soft_step (fun K hK => ?_); go_simp; (try go_bits); refine hK _ ?_; clear hK K)
        refine soft_nil ?_
        rintro w1 hw1
        have HB1 := Lib.hid (below_next HB.out hw1.below)
        clear hw1
        go_wp2_with fail
        go_roundw
        case rel => exact ⟨j + 1, j, by omega, by go_num, rfl, by rw [HMORE.out]; rfl, HB1.out⟩
        case measure => simp [intOf]; omega
      | some b =>
        have hbj : b < j := bestN_lt hbest
        have b1 : (b : Int) < (bl.length : Int) := by omega
        obtain ⟨cb, hcb⟩ : ∃ cb, bl[b]? = some cb := ⟨_, List.getElem?_eq_getElem (by omega)⟩
        obtain ⟨gq', e, hqb⟩ := HL.out b cb hcb
        cases e
        rw [hbest] at HMORE hz
        obtain rfl : z = (b : Int) := hz
        have q2 : ∀ zz, (ext wr zz).cell? ⟨gq, b, none⟩ = some (.float .f32 cb) := fun zz => ext_cell wr zz (cell_below HB.out hqb)
        have HNB := Lib.hid (nth_map hcb)
        have F2 : Hid (Fits (fb cb)) := HFIT.out cb (List.mem_of_getElem? hcb)
        clear hbest hcb hqb
        go_wp2_with fail
        refine wp_soft SSize (by kernel_rfl) (by kernel_rfl) ?_
        repeat (first | (refine soft_step (fun K hK => ?_); go_simp; (try go_bits); refine hK _ ?_; clear hK K) | (refine soft_step (fun K hK => ?_); go_simp; refine ⟨_, _, ⟨rfl, rfl⟩, fun zz => (size_any _ _ _ Is.rfl ?_).mono ?_, ?_⟩; (first | exact F1.out | exact F2.out); (rintro e w1 ⟨r, he, hr, hb⟩; exact ⟨_, he, ⟨_, r, rfl, rfl, hr⟩, hb⟩); rintro v ⟨_, r, e, rfl, hr⟩; cases e; refine hK _ ?_; clear hK K))
        rename_i rc hrc
        refine soft_nil ?_
        rintro w1 hw1
        have HB1 := Lib.hid (below_next HB.out hw1.below)
        have hG : fgt (fb rc) (fb r) = fgt (fabs (nth (bl.map fb) j)) (fabs (nth (bl.map fb) b)) := by rw [hrc.out, hr.out, HN.out, HNB.out]
        clear hw1 hrc hr q2
        go_wp2_with fail
        · rename_i h
          have hT : fgt (fabs (nth (bl.map fb) j)) (fabs (nth (bl.map fb) b)) = true := by
            rw [← hG]
            rcases h with h | h
            · omega
            · exact h
          have HS : Hid (bestStep (nth (bl.map fb)) (some b) j = some j) := by show (if _ then _ else _) = _; rw [hT]; rfl
          clear hT
          go_roundw
          case rel => exact ⟨j + 1, j, by omega, by go_num, rfl, by rw [HMORE.out, HS.out]; rfl, HB1.out⟩
          case measure => simp [intOf]; omega
        · rename_i h
          have hT : fgt (fabs (nth (bl.map fb) j)) (fabs (nth (bl.map fb) b)) = false := by rw [← hG]; exact h.2
          have HS : Hid (bestStep (nth (bl.map fb)) (some b) j = some b) := by show (if _ then _ else _) = _; rw [hT]; rfl
          clear hT
          go_roundw
          case rel => exact ⟨j + 1, b, by omega, by go_num, rfl, by rw [HMORE.out, HS.out]; rfl, HB1.out⟩
          case measure => simp [intOf]; omega
    · have hjn : j = bl.length := by omega
      have hlt' : ¬ (j : Int) < (bl.length : Int) := by omega
      subst hjn
      have HZ := Lib.hid hz
      clear hz
      go_wp2_with fail
      go_ret
      exact ⟨ret_int HZ.out, HB.out⟩
end Go.Proofs.Ytonmdkhfongmhaa
