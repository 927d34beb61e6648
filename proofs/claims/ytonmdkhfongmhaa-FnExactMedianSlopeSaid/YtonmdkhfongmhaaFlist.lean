/- Lists of floats; their sum by the program. -/
import Derived.Test.YtonmdkhfongmhaaEq
namespace Go.Proofs.Ytonmdkhfongmhaa
open Go.RowKit

def flts (l : List Nat) : List Value := l.map fun b : Nat => .float .f32 b
theorem flts_snoc (l : List Nat) (b : Nat) : flts (l ++ [b]) = flts l ++ [.float .f32 b] := by simp [flts]
theorem Try.info24 : (Try.prog.info? 24).map (fun i => (i.zero, i.size, i.bytes)) = some (some (.float .f32 0), 1, 4) := by kernel_rfl

/-- A list of floats that a slice shows. -/
def FListAt (w : World) (v : Value) (l : List Nat) : Prop :=
  ∃ a cap, v = .slice a l.length cap ∧ l.length ≤ cap ∧ ∀ (j c : Nat), l[j]? = some c → ∃ gq, a = some ⟨gq, 0, none⟩ ∧ w.cell? ⟨gq, j, none⟩ = some (.float .f32 c)
theorem flist_of {w : World} {base : Nat} {v : Value} {l : List Nat} (h : w.ownsRow base 24 1 v l.length (flts l)) : FListAt w v l := by
  have h' := h
  obtain ⟨h1, h2 | ⟨g, cap, cur, rfl, hb, hg, hn, _⟩⟩ := h
  · obtain ⟨rfl, h0⟩ := h2
    refine ⟨none, 0, by rw [h0], by omega, fun j c hc => ?_⟩
    have : l = [] := List.eq_nil_of_length_eq_zero h0
    subst this; cases hc
  · refine ⟨_, cap, rfl, hn, fun j c hc => ⟨g, rfl, ?_⟩⟩
    have hj : j < l.length := (List.getElem?_eq_some_iff.1 hc).1
    have := World.ownsRow.cellAt (w := w) (base := base) (e := 24) (size := 1) (g := g) (n := l.length) (cap := cap) (xs := flts l) h' j (by omega)
    rw [this]
    simp [flts, hc]

theorem owns_below {w w' : World} {base : Nat} {T : TypeId} {v : Value} {n : Nat} {xs : List Value} (h : w.ownsRow base T 1 v n xs) (hB : Below w.heap.size w w') : w'.ownsRow base T 1 v n xs := by
  obtain ⟨h1, h2⟩ := h
  refine ⟨h1, h2.imp id fun ⟨g, cap, cur, e, hb, hg, rest⟩ => ⟨g, cap, cur, e, hb, ?_, rest⟩⟩
  exact (hB.block g (Array.getElem?_eq_some_iff.1 hg).1).trans hg

/-- The sum of numbers, 0 of none. -/
def sumB : List Nat → F
  | [] => some 0
  | x :: r => r.foldl (fun a y => fadd a (fb y)) (fb x)

def SumRel (x : Nat) (r : List Nat) (w : World) (v3 v15 : Value) (wr : World) : Prop :=
  ∃ j s : Nat, j ≤ r.length ∧ v15 = .int .i64 j ∧ v3 = .float .f32 s ∧ Is s ((r.take j).foldl (fun a y => fadd a (fb y)) (fb x)) ∧ Below w.heap.size w wr

set_option maxRecDepth 100000 in
set_option maxHeartbeats 800000 in
theorem sum_any (v : Value) (l : List Nat) (w : World) (hlen : l.length ≤ 64) (hv : FListAt w v l) :
    Calls Try.prog 98 #[v] w (RetF (sumB l) w) := by
  obtain ⟨aL, cap, rfl, hcap, hL⟩ := hv
  cases l with
  | nil =>
    clear hL
    go_enter Try.func98, Try.ntmps98
    go_wp2_with fail
    go_ret
    exact ⟨0, rfl, fb0, Below.refl _ _⟩
  | cons x tl =>
    obtain ⟨gq, rfl, hx0⟩ := hL 0 x rfl
    have HL : Hid (∀ (j c : Nat), tl[j]? = some c → w.cell? ⟨gq, 1 + j, none⟩ = some (.float .f32 c)) := by
      intro j c hc
      obtain ⟨gq', e, h⟩ := hL (j + 1) c (by simpa using hc)
      cases e
      rw [Nat.add_comm 1 j]; exact h
    have hlen' : tl.length + 1 ≤ 64 := hlen
    have hcap' : tl.length + 1 ≤ cap := hcap
    clear hL
    simp only [List.length_cons]
    by_cases h1 : cap = 1
    · subst h1
      have hr0 : tl = [] := List.eq_nil_of_length_eq_zero (by omega)
      subst hr0
      clear HL hlen' hcap' hcap
      go_enter Try.func98, Try.ntmps98
      go_wp2_with fail
      go_loopw [3, 15] (fun v3 v15 wr => SumRel x [] w v3 v15 wr) (fun _ v15 _ => 1 - (intOf v15).toNat)
      case atStart => exact ⟨0, x, by simp, rfl, rfl, rfl, Below.refl _ _⟩
      case round =>
        obtain ⟨j, s, hj, rfl, rfl, hs, hB⟩ := hrel
        have HS := Lib.hid hs
        have HB := Lib.hid hB
        obtain rfl : j = 0 := by simpa using hj
        clear hs hB
        go_wp2_with fail
        go_ret
        exact ⟨s, rfl, HS.out, HB.out⟩
    · go_enter Try.func98, Try.ntmps98
      go_wp2_with fail
      go_loopw [3, 15] (fun v3 v15 wr => SumRel x tl w v3 v15 wr) (fun _ v15 _ => tl.length - (intOf v15).toNat)
      case atStart => exact ⟨0, x, by omega, rfl, rfl, rfl, Below.refl _ _⟩
      case round =>
        obtain ⟨j, s, hj, rfl, rfl, hs, hB⟩ := hrel
        have HS := Lib.hid hs
        have HB := Lib.hid hB
        clear hs hB
        by_cases hlt : j < tl.length
        · obtain ⟨y, hy⟩ : ∃ y, tl[j]? = some y := ⟨_, List.getElem?_eq_getElem hlt⟩
          have hcell := cell_below HB.out (HL.out j y hy)
          have HY := Lib.hid hy
          have j1 : (j : Int) < (tl.length : Int) := by omega
          clear hy
          go_wp2_with (((with_reducible refine wpList_gate ?_); refine wpList_arith _ _ rfl rfl rfl ?_; intro r n hr))
          have HR : Hid (Is r ((tl.take (j + 1)).foldl (fun a y => fadd a (fb y)) (fb x))) := by
            show fb r = _
            rw [take_more HY.out, List.foldl_append, hr.out, fop, HS.out.out]; rfl
          go_roundw
          case rel => exact ⟨_, _, _, _, _, _, _, _, _, _, ⟨j + 1, r, by omega, by go_num, rfl, HR.out, below_drawn HB.out _⟩, rfl⟩
          case measure => simp [intOf]; omega
        · have hjn : j = tl.length := by omega
          have j1 : ¬ (j : Int) < (tl.length : Int) := by omega
          rw [List.take_of_length_le (Nat.le_of_eq hjn.symm)] at HS
          clear hjn
          go_wp2_with fail
          go_ret
          exact ⟨s, rfl, HS.out, HB.out⟩

theorem setCells_blk {b : Nat} {t : TypeId} : ∀ (vs : List Value) (o : Nat) (w : World) (cur : Array Value), Blk w b cur t → ∃ cur', Blk (w.setCells b o vs) b cur' t ∧ cur'.size = cur.size ∧ ∀ q, q < o → cur'[q]? = cur[q]?
  | [], _, _, cur, h => ⟨cur, h, rfl, fun _ _ => rfl⟩
  | v :: r, o, w, cur, h => by
    obtain ⟨c', h1, h2, h3⟩ := setCells_blk r (o + 1) _ _ (h.cell_same o v)
    refine ⟨c', h1, by rw [h2]; simp, fun q hq => ?_⟩
    rw [h3 q (by omega), Array.getElem?_setIfInBounds, if_neg (by omega)]
theorem setCells_grown {b : Nat} : ∀ (vs : List Value) (o : Nat) (w : World), w.grownBy (w.setCells b o vs) (some b)
  | [], _, w => grown_refl w _
  | v :: r, o, w => by
    have h : w.grownBy (w.setCell ⟨b, o, none⟩ v) (some b) := ⟨rfl, rfl, rfl, by simp [World.setCell], fun k _ hk => heap_setCell_other w _ k v (fun e => hk (by rw [e]))⟩
    exact grown_trans h (setCells_grown r (o + 1) _)
end Go.Proofs.Ytonmdkhfongmhaa
