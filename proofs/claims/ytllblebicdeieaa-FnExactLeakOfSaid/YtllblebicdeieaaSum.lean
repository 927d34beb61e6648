/- The numbers of a field at some cells, and their sum. -/
import Derived.Test.YtllblebicdeieaaWorst
namespace Go.Proofs.Ytllblebicdeieaa
open Go.RowKit

def flts (l : List Nat) : List Value := l.map fun b : Nat => .float .f32 b
theorem flts_snoc (l : List Nat) (b : Nat) : flts (l ++ [b]) = flts l ++ [.float .f32 b] := by simp [flts]
theorem Try.info23 : (Try.prog.info? 23).map (fun i => (i.zero, i.size, i.bytes)) = some (some (.float .f32 0), 1, 4) := by kernel_rfl

/-- A list of floats that a slice shows. -/
def FListAt (w : World) (v : Value) (l : List Nat) : Prop :=
  ∃ a cap, v = .slice a l.length cap ∧ l.length ≤ cap ∧ ∀ (j c : Nat), l[j]? = some c → ∃ gq, a = some ⟨gq, 0, none⟩ ∧ w.cell? ⟨gq, j, none⟩ = some (.float .f32 c)
theorem flist_of {w : World} {base : Nat} {v : Value} {l : List Nat} (h : w.ownsRow base 23 1 v l.length (flts l)) : FListAt w v l := by
  have h' := h
  obtain ⟨h1, h2 | ⟨g, cap, cur, rfl, hb, hg, hn, _⟩⟩ := h
  · obtain ⟨rfl, h0⟩ := h2
    refine ⟨none, 0, by rw [h0], by omega, fun j c hc => ?_⟩
    have : l = [] := List.eq_nil_of_length_eq_zero h0
    subst this; cases hc
  · refine ⟨_, cap, rfl, hn, fun j c hc => ⟨g, rfl, ?_⟩⟩
    have hj : j < l.length := (List.getElem?_eq_some_iff.1 hc).1
    have := World.ownsRow.cellAt (w := w) (base := base) (e := 23) (size := 1) (g := g) (n := l.length) (cap := cap) (xs := flts l) h' j (by omega)
    rw [this]
    simp [flts, hc]

def AtRel (f : Nat → Nat) (l : List Nat) (w : World) (v5 v11 : Value) (wr : World) : Prop :=
  ∃ j : Nat, j ≤ l.length ∧ v11 = .int .i64 j ∧ wr.ownsRow w.heap.size 23 1 v5 ((l.take j).map f).length (flts ((l.take j).map f)) ∧ Below w.heap.size w wr

set_option maxRecDepth 100000 in
set_option maxHeartbeats 800000 in
theorem at_any (bf : Nat) (v : Value) (l : List Nat) (f : Nat → Nat) (w : World) (hl : ∀ c ∈ l, c < 64) (hlen : l.length ≤ 64) (hv : ListAt w v l) (hf : FAt w bf 0 f) :
    Calls Try.prog 69 #[v, .pointer (some ⟨bf, 0, none⟩)] w fun e w' => ∃ v', e = .returned v' ∧ FListAt w' v' (l.map f) ∧ Below w.heap.size w w' := by
  obtain ⟨i0, hi, hz0, hz1, hz2⟩ := info_parts Try.info23
  obtain ⟨aL, cap, rfl, hL⟩ := hv
  have HL := Lib.hid hL
  have hbf : bf < w.heap.size := block_lt_of_cell (hf 0 (by omega))
  clear hL
  go_enter Try.func69, Try.ntmps69
  go_wp2_with fail
  go_loopw [5, 11] (fun v5 v11 wr => AtRel f l w v5 v11 wr) (fun _ v11 _ => l.length - (intOf v11).toNat)
  case atStart => exact ⟨0, by omega, rfl, World.ownsRow_lit w #[] 0 (Nat.le_refl _) (by simp [maxLen]) rfl, (Below.refl _ _).alloc (Nat.le_refl _) _⟩
  case round =>
    obtain ⟨j, hj, rfl, hown, hB⟩ := hrel
    have HF := Lib.hid (FAt.below hf hB)
    have HB := Lib.hid hB
    have HO := Lib.hid hown
    clear hf hB hown
    by_cases hlt : j < l.length
    · obtain ⟨c, hc⟩ : ∃ c, l[j]? = some c := ⟨_, List.getElem?_eq_getElem hlt⟩
      have hc64 : c < 64 := hl c (List.mem_of_getElem? hc)
      obtain ⟨gq, rfl, hq3⟩ := HL.out j c hc
      have hj64 : j < 64 := by omega
      have hcell := cell_below HB.out hq3
      have hfc := HF.out c hc64
      simp only [Nat.zero_add] at hfc
      have HC := Lib.hid hc
      have c1 : (c : Int) < 64 := by omega
      have j1 : (j : Int) < (l.length : Int) := by omega
      have hlen2 : ((l.take j).map f).length = j := by rw [List.length_map, List.length_take]; omega
      have hbs := HB.out.size
      have hown := HO.out
      clear hc hq3
      go_wp2_with (at_builtin; refine wpList_append_own _ rfl _ _ 85 rfl w.heap.size 23 i0 (.float .f32 0) 1 4 Try.underlying85 hi hz0 hz1 hz2 rfl (by decide) _ _ _ rfl (hown.alloc _) ⟨wr.heap.size, 0, none⟩ 1 1 [.float .f32 (f c)] rfl rfl (cell_one_new _ _ _) (by simp [Value.oneCell']) (by unfold maxLen; omega) (by omega) (by simp; omega) ?_)
      intro v' w1 hown1 hgrow _
      have HO1 := Lib.hid hown1
      have HB1 := Lib.hid hgrow
      clear hown1 hgrow hown
      go_wp2
      go_roundw
      case rel =>
        refine ⟨j + 1, by omega, by go_num, ?_, (HB.out.alloc (by omega) _).grown HB1.out (by simp; omega) (fun k hk => (HO.out.lt k hk).1)⟩
        rw [take_more HC.out, List.map_append]
        show World.ownsRow _ _ _ _ _ ((List.map f (List.take j l) ++ [f c]).length) (flts (List.map f (List.take j l) ++ [f c]))
        rw [flts_snoc, List.length_append, hlen2, List.map_take]
        exact HO1.out
      case measure => simp [intOf]; omega
    · have hjn : j = l.length := by omega
      have j1 : ¬ (j : Int) < (l.length : Int) := by omega
      have HO2 := Lib.hid HO.out
      rw [List.take_of_length_le (Nat.le_of_eq hjn.symm)] at HO2
      clear hjn
      go_wp2_with fail
      go_ret
      exact ⟨_, rfl, flist_of HO2.out, HB.out⟩

/-- The sum of numbers, 0 of none. -/
def sumB : List Nat → F
  | [] => some 0
  | x :: r => r.foldl (fun a y => fadd a (fb y)) (fb x)

def SumRel (x : Nat) (r : List Nat) (w : World) (v3 v15 : Value) (wr : World) : Prop :=
  ∃ j s : Nat, j ≤ r.length ∧ v15 = .int .i64 j ∧ v3 = .float .f32 s ∧ Is s ((r.take j).foldl (fun a y => fadd a (fb y)) (fb x)) ∧ Below w.heap.size w wr

set_option maxRecDepth 100000 in
set_option maxHeartbeats 800000 in
theorem sum_any (v : Value) (l : List Nat) (w : World) (hlen : l.length ≤ 64) (hv : FListAt w v l) :
    Calls Try.prog 68 #[v] w (RetF (sumB l) w) := by
  obtain ⟨aL, cap, rfl, hcap, hL⟩ := hv
  cases l with
  | nil =>
    clear hL
    go_enter Try.func68, Try.ntmps68
    go_wp2_with fail
    go_ret
    exact ⟨0, rfl, fb0, Below.refl _ _⟩
  | cons x tl =>
    obtain ⟨gq, rfl, hx0⟩ := hL 0 x rfl
    have HL : Hid (∀ (j c : Nat), tl[j]? = some c → w.cell? ⟨gq, 1 + j, none⟩ = some (.float .f32 c)) := by
      intro j c hc
      obtain ⟨gq', e, h⟩ := hL (j + 1) c (by simpa using hc)
      cases e
      rw [Nat.add_comm 1 j]; exact h
    have hlen' : tl.length + 1 ≤ 64 := hlen
    have hcap' : tl.length + 1 ≤ cap := hcap
    clear hL
    simp only [List.length_cons]
    by_cases h1 : cap = 1
    · subst h1
      have hr0 : tl = [] := List.eq_nil_of_length_eq_zero (by omega)
      subst hr0
      clear HL hlen' hcap' hcap
      go_enter Try.func68, Try.ntmps68
      go_wp2_with fail
      go_loopw [3, 15] (fun v3 v15 wr => SumRel x [] w v3 v15 wr) (fun _ v15 _ => 1 - (intOf v15).toNat)
      case atStart => exact ⟨0, x, by simp, rfl, rfl, rfl, Below.refl _ _⟩
      case round =>
        obtain ⟨j, s, hj, rfl, rfl, hs, hB⟩ := hrel
        have HS := Lib.hid hs
        have HB := Lib.hid hB
        obtain rfl : j = 0 := by simpa using hj
        clear hs hB
        go_wp2_with fail
        go_ret
        exact ⟨s, rfl, HS.out, HB.out⟩
    · go_enter Try.func68, Try.ntmps68
      go_wp2_with fail
      go_loopw [3, 15] (fun v3 v15 wr => SumRel x tl w v3 v15 wr) (fun _ v15 _ => tl.length - (intOf v15).toNat)
      case atStart => exact ⟨0, x, by omega, rfl, rfl, rfl, Below.refl _ _⟩
      case round =>
        obtain ⟨j, s, hj, rfl, rfl, hs, hB⟩ := hrel
        have HS := Lib.hid hs
        have HB := Lib.hid hB
        clear hs hB
        by_cases hlt : j < tl.length
        · obtain ⟨y, hy⟩ : ∃ y, tl[j]? = some y := ⟨_, List.getElem?_eq_getElem hlt⟩
          have hcell := cell_below HB.out (HL.out j y hy)
          have HY := Lib.hid hy
          have j1 : (j : Int) < (tl.length : Int) := by omega
          clear hy
          go_wp2_with (((with_reducible refine wpList_gate ?_); refine wpList_arith _ _ rfl rfl rfl ?_; intro r n hr))
          have HR : Hid (Is r ((tl.take (j + 1)).foldl (fun a y => fadd a (fb y)) (fb x))) := by
            show fb r = _
            rw [take_more HY.out, List.foldl_append, hr.out, fop, HS.out.out]; rfl
          go_roundw
          case rel => exact ⟨_, _, _, _, _, _, _, _, _, _, ⟨j + 1, r, by omega, by go_num, rfl, HR.out, below_drawn HB.out _⟩, rfl⟩
          case measure => simp [intOf]; omega
        · have hjn : j = tl.length := by omega
          have j1 : ¬ (j : Int) < (tl.length : Int) := by omega
          rw [List.take_of_length_le (Nat.le_of_eq hjn.symm)] at HS
          clear hjn
          go_wp2_with fail
          go_ret
          exact ⟨s, rfl, HS.out, HB.out⟩
end Go.Proofs.Ytllblebicdeieaa
