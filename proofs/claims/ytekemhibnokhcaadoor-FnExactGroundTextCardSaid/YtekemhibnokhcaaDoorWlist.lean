/- The laws' copies of lists of wells; whether two are the same. -/
import Derived.Test.YtekemhibnokhcaaDoorFlist
import Derived.Test.YtekemhibnokhcaaDoorWlaw
import Derived.OwnWalk
namespace Go.Proofs.YtekemhibnokhcaaDoor
open Go.RowKit

/-- A list of wells of the laws that a slice shows. -/
def LAt (w : World) (v : Value) (l : List We) : Prop :=
  ∃ a cap, v = .slice a l.length cap ∧ ∀ (j : Nat) (e : We), l[j]? = some e → e.Rng ∧ ∃ g o, a = some ⟨g, o, none⟩ ∧ w.rangeAt g (o + j * 3) e.cells
theorem LAt.far {w w' : World} {v : Value} {l : List We} (h : LAt w v l) (hb : Below w.heap.size w w') : LAt w' v l := by
  obtain ⟨a, cap, e, hL⟩ := h
  refine ⟨a, cap, e, fun j x hx => ?_⟩
  obtain ⟨h1, g, o, h2, h3⟩ := hL j x hx
  exact ⟨h1, g, o, h2, range_below h3 hb⟩
theorem LAt.rng {w : World} {v : Value} {l : List We} (h : LAt w v l) : ∀ e ∈ l, e.Rng := by
  obtain ⟨a, cap, _, hL⟩ := h
  intro e he
  obtain ⟨j, hj⟩ := List.getElem?_of_mem he
  exact (hL j e hj).1
theorem sizeWellL : (Tryd.prog.info? 45).map (·.size) = some 3 := by kernel_rfl
theorem infoWell : (Tryd.prog.info? 43).map (fun i => (i.zero, i.size, i.bytes)) = some (some (.agg #[.int .i8 0, .int .i8 0, .float .f32 0]), 3, 8) := by kernel_rfl

/-- A list of wells in a block of its own. -/
def WBlk (w : World) (B : Nat) (l : List We) : Prop :=
  ∃ cur : Array Value, Blk w B cur 43 ∧ cur.size = l.length * 3 ∧ ∀ (i : Nat) (e : We), l[i]? = some e → w.rangeAt B (i * 3) e.cells
theorem WBlk.wat {w : World} {B : Nat} {l : List We} (h : WBlk w B l) (hr : ∀ e ∈ l, e.Rng) : WAt w (.slice (some ⟨B, 0, none⟩) l.length l.length) l := by
  obtain ⟨cur, h1, h2, h3⟩ := h
  exact ⟨_, _, rfl, fun j e he => ⟨hr e (List.mem_of_getElem? he), B, rfl, h3 j e he⟩⟩
theorem WBlk.far {w w' : World} {B : Nat} {l : List We} (h : WBlk w B l) (hb : Below w.heap.size w w') : WBlk w' B l := by
  obtain ⟨cur, h1, h2, h3⟩ := h
  exact ⟨cur, h1.later hb, h2, fun i e he => range_below (h3 i e he) hb⟩
theorem blk_there {w : World} {B n o k : Nat} {cur : Array Value} {t : TypeId} (h : Blk w B cur t) (hs : cur.size = n) (hk : o + k ≤ n) : w.there B o k := fun j hj => by
  refine ⟨?_, h.free _⟩
  rw [h.at (i := o + j) (v := cur[o + j]'(by omega)) (by simp [show o + j < cur.size by omega])]
  rfl

def EqWRel (l : List We) (w : World) (v5 : Value) (wr : World) : Prop := ∃ j : Nat, j ≤ l.length ∧ v5 = .int .i64 j ∧ Below w.heap.size w wr
def CopyW (l : List We) (wm : World) (B : Nat) (v : Value) (wr : World) : Prop :=
  ∃ (j : Nat) (cur : Array Value), j ≤ l.length ∧ v = .int .i64 j ∧ Blk wr B cur 43 ∧ cur.size = l.length * 3 ∧ (∀ (i : Nat) (e : We), i < j → l[i]? = some e → wr.rangeAt B (i * 3) e.cells) ∧ wm.grownBy wr (some B)

set_option maxRecDepth 100000 in
set_option maxHeartbeats 1600000 in
theorem toWellS_any (v : Value) (l : List We) (w : World) (hlen : l.length ≤ 1048576) (hv : LAt w v l) :
    Calls Tryd.prog 7 #[v] w fun e w' => ∃ B, e = .returned (.slice (some ⟨B, 0, none⟩) l.length l.length) ∧ w.heap.size ≤ B ∧ WBlk w' B l ∧ Below w.heap.size w w' := by
  obtain ⟨i0, hi, hz0, hz1, hz2⟩ := info_parts infoWell
  obtain ⟨aL, cap, rfl, hL⟩ := hv
  have HL := Lib.hid hL
  clear hL
  go_enter Tryd.func7, Tryd.ntmps7
  go_wp2_with (refine wpList_make_full _ rfl _ _ 25 rfl w.heap.size 43 i0 (.agg #[.int .i8 0, .int .i8 0, .float .f32 0]) 3 Tryd.underlying25 hi hz0 hz1 .i64 .i64 (l.length : Int) (l.length : Int) l.length rfl rfl rfl rfl (by rw [hz2]; omega) (by unfold maxLen; omega) (Nat.le_refl _) ?_)
  intro w1 hown hgr
  obtain ⟨B, hBe⟩ : ∃ B, w.heap.size = B := ⟨_, rfl⟩
  have hbel1 : Hid (Below w.heap.size w w1) := ⟨hgr.os, hgr.tape, hgr.output, hgr.size, fun k hk => hgr.block k hk (by simp)⟩
  have HK1 : Hid (∃ cur, Blk w1 B cur 43 ∧ cur.size = l.length * 3) := by
    obtain ⟨_, h2 | ⟨g, cap', cur, he, hb, hg, hn, hm, hs, _⟩⟩ := hown
    · cases h2.1
    · cases he
      rw [hBe] at hg
      exact ⟨cur, hg, hs⟩
  rw [hBe]
  have HBE := Lib.hid hBe
  clear hown hgr hBe
  go_wp2_with fail
  go_loopw [4] (fun v4 wr => CopyW l w1 B v4 wr) (fun v4 _ => l.length - (intOf v4).toNat)
  case atStart =>
    obtain ⟨cur, h1, h2⟩ := HK1.out
    exact ⟨0, cur, by omega, rfl, h1, h2, fun i e hi => absurd hi (by omega), grown_refl _ _⟩
  case round =>
    obtain ⟨j, cur, hj, rfl, hb, hsz, hall, hgr⟩ := hrel
    have HB := Lib.hid hb
    have HALL := Lib.hid hall
    have HGR := Lib.hid hgr
    clear hb hall hgr
    have hle1 : B < w1.heap.size := by obtain ⟨c, h1, _⟩ := HK1.out; exact h1.lt
    by_cases hlt : j < l.length
    · obtain ⟨e, he⟩ : ∃ e, l[j]? = some e := ⟨_, List.getElem?_eq_getElem hlt⟩
      obtain ⟨hrng, g, o, rfl, hq⟩ := HL.out j e he
      have hgB : g < B := by rw [← HBE.out]; exact block_lt_of_cell (hq 0 _ rfl)
      have HQ : Hid (wr.rangeAt g (o + j * 3) e.cells) := fun i u hu => cell_grown (cell_below hbel1.out (hq i u hu)) HGR.out (by omega)
      have HE := Lib.hid he
      have j1 : (j : Int) < (l.length : Int) := by omega
      clear hq he
      go_wp2_with (first | ((with_reducible refine wpList_gateL ?_); refine wpList_load_mid rfl _ _ rfl g (o + j * 3) rfl e.cells _ HQ.out Tryd.underlying45 rfl sizeWellL ?_) | (go_at_call 15; refine (toWell_any e.x e.y e.r _).mono ?_; rintro e2 w2 ⟨rfl, hb2⟩; have HB2 := Lib.hid (HB.out.later hb2)) | ((with_reducible refine wpList_gateS ?_); refine wpList_store_mid rfl _ _ _ rfl B (j * 3) e.cells.toArray rfl rfl (blk_there HB2.out hsz (by show j * 3 + 3 ≤ _; omega)) sizeWell (by simp [We.cells, Value.oneCell']) ?_))
      obtain ⟨w3, hw3⟩ : ∃ w3, w2.setCells B (j * 3) e.cells.toArray.toList = w3 := ⟨_, rfl⟩
      have HS : Hid (∃ cur', Blk w3 B cur' 43 ∧ cur'.size = l.length * 3 ∧ (∀ (i : Nat) (e : We), i < j + 1 → l[i]? = some e → w3.rangeAt B (i * 3) e.cells) ∧ w1.grownBy w3 (some B)) := by
        rw [← hw3]
        obtain ⟨cur', h1, h2, _⟩ := setCells_blk e.cells.toArray.toList (j * 3) _ _ HB2.out
        refine ⟨cur', h1, by omega, fun i e' hi he' => ?_, grown_trans (grown_trans HGR.out (grown_below hb2)) (setCells_grown _ _ _)⟩
        by_cases e3 : i = j
        · subst e3
          rw [HE.out] at he'
          cases he'
          exact World.rangeAt_setCells_same _ _ _ _ (blk_there HB2.out hsz (by show i * 3 + 3 ≤ _; omega))
        · refine World.rangeAt_setCells_apart (range_below (HALL.out i e' (by omega) he') hb2) _ _ _ (.inr (.inl ?_))
          show i * 3 + 3 ≤ j * 3
          omega
      rw [hw3]
      clear hw3 hb2 HB2
      go_wp2_with fail
      go_roundw
      case rel =>
        obtain ⟨cur', h1, h2, h3, h4⟩ := HS.out
        exact ⟨j + 1, cur', by omega, by go_num, h1, h2, h3, h4⟩
      case measure => simp [intOf]; omega
    · have j1 : ¬ (j : Int) < (l.length : Int) := by omega
      go_wp2_with fail
      go_ret
      refine ⟨B, rfl, by rw [HBE.out]; exact Nat.le_refl _, ⟨cur, HB.out, hsz, fun i e he => HALL.out i e (by have := (List.getElem?_eq_some_iff.1 he).1; omega) he⟩, ?_⟩
      exact below_grown hbel1.out HGR.out hbel1.out.size (by rw [HBE.out]; exact Nat.le_refl _)

set_option maxHeartbeats 400000 in
theorem szWellS_any (v : Value) (l : List We) (w : World) (hlen : l.length < 9223372036854775808) (hv : LAt w v l) :
    Calls Tryd.prog 5 #[v, .int .i64 1048576] w fun e w' => e = .returned (.int .i64 (if l.length ≤ 1048576 then 1048576 - (l.length : Int) else -1)) ∧ w = w' := by
  obtain ⟨aL, cap, rfl, hL⟩ := hv
  clear hL
  by_cases h : l.length ≤ 1048576
  · rw [if_pos h]
    have h1 : ¬ (1048576 : Int) - (l.length : Int) < 0 := by omega
    go_enter Tryd.func5, Tryd.ntmps5
    go_wp2_with fail
    go_ret
    exact ⟨rfl, rfl⟩
  · rw [if_neg h]
    have h1 : (1048576 : Int) - (l.length : Int) < 0 := by omega
    go_enter Tryd.func5, Tryd.ntmps5
    go_wp2_with fail
    go_ret
    exact ⟨rfl, rfl⟩

set_option maxRecDepth 100000 in
set_option maxHeartbeats 800000 in
theorem eqWell_any (X Y : Int) (R : Nat) (w : World) :
    Calls Tryd.prog 19 #[.agg #[.int .i8 X, .int .i8 Y, .float .f32 R], .agg #[.int .i8 X, .int .i8 Y, .float .f32 R]] w (RetB true w) := by
  go_enter Tryd.func19, Tryd.ntmps19
  go_wp2_with (with_reducible refine wpList_box rfl ?_)
  intro A wA hA1 hA2 hA3 hA4
  go_wp2_with (with_reducible refine wpList_box rfl ?_)
  intro B wB hB1 hB2 hB3 hB4
  have a0 : wB.cell? ⟨A, 0, none⟩ = some (.int .i8 X) := (hA3.later hB4).at rfl
  have a1 : wB.cell? ⟨A, 1, none⟩ = some (.int .i8 Y) := (hA3.later hB4).at rfl
  have a2 : wB.cell? ⟨A, 2, none⟩ = some (.float .f32 R) := (hA3.later hB4).at rfl
  have b0 : wB.cell? ⟨B, 0, none⟩ = some (.int .i8 X) := hB3.at rfl
  have b1 : wB.cell? ⟨B, 1, none⟩ = some (.int .i8 Y) := hB3.at rfl
  have b2 : wB.cell? ⟨B, 2, none⟩ = some (.float .f32 R) := hB3.at rfl
  have HB := Lib.hid (below_next hA4 hB4)
  clear hA3 hA4 hB3 hB4
  go_wp2_with ((with_reducible refine wpList_wideG ?_ ?_ ?_ ?_ ?_); (exact rfl); (exact rfl); (exact Tryd.underlying74); (exact rfl); intro d n hd)
  rename_i d1 n1 hd1 _ _
  refine (sameFloat_any _ _ _ (by rw [hd1.out, hd.out]; rfl)).mono ?_
  rintro e w5 ⟨rfl, hb5⟩
  have HB5 := Lib.hid (below_next (below_drawn HB.out _) hb5)
  clear hb5
  go_wp2_with fail
  go_ret
  exact ⟨rfl, HB5.out⟩

set_option maxRecDepth 100000 in
set_option maxHeartbeats 800000 in
theorem eqWellS_any (v v' : Value) (l : List We) (w : World) (hlen : l.length ≤ 1048576) (hv : WAt w v l) (hv' : WAt w v' l) :
    Calls Tryd.prog 9 #[v, v'] w (RetB true w) := by
  obtain ⟨aL, cap, rfl, hL⟩ := hv
  obtain ⟨aL', cap', rfl, hL'⟩ := hv'
  have HL := Lib.hid hL
  have HL' := Lib.hid hL'
  clear hL hL'
  go_enter Tryd.func9, Tryd.ntmps9
  go_wp2_with fail
  go_loopw [5] (fun v5 wr => EqWRel l w v5 wr) (fun v5 _ => l.length - (intOf v5).toNat)
  case atStart => exact ⟨0, by omega, rfl, Below.refl _ _⟩
  case round =>
    obtain ⟨j, hj, rfl, hB⟩ := hrel
    have HB := Lib.hid hB
    clear hB
    by_cases hlt : j < l.length
    · obtain ⟨e, he⟩ : ∃ e, l[j]? = some e := ⟨_, List.getElem?_eq_getElem hlt⟩
      obtain ⟨_, g, rfl, hq⟩ := HL.out j e he
      obtain ⟨_, g', rfl, hq'⟩ := HL'.out j e he
      have c0 : ∀ z, (ext wr z).cell? ⟨g, j * 3, none⟩ = some (.int .i8 e.x) := fun z => ext_cell wr z (cell_below HB.out (hq 0 _ rfl))
      have c1 : ∀ z, (ext wr z).cell? ⟨g, j * 3 + 1, none⟩ = some (.int .i8 e.y) := fun z => ext_cell wr z (cell_below HB.out (hq 1 _ rfl))
      have c2 : ∀ z, (ext wr z).cell? ⟨g, j * 3 + 2, none⟩ = some (.float .f32 e.r) := fun z => ext_cell wr z (cell_below HB.out (hq 2 _ rfl))
      have d0 : ∀ z, (ext wr z).cell? ⟨g', j * 3, none⟩ = some (.int .i8 e.x) := fun z => ext_cell wr z (cell_below HB.out (hq' 0 _ rfl))
      have d1 : ∀ z, (ext wr z).cell? ⟨g', j * 3 + 1, none⟩ = some (.int .i8 e.y) := fun z => ext_cell wr z (cell_below HB.out (hq' 1 _ rfl))
      have d2 : ∀ z, (ext wr z).cell? ⟨g', j * 3 + 2, none⟩ = some (.float .f32 e.r) := fun z => ext_cell wr z (cell_below HB.out (hq' 2 _ rfl))
      have j1 : (j : Int) < (l.length : Int) := by omega
      clear hq hq' he
      go_wp2_with fail
      refine wp_soft (SV (.bool true)) (by kernel_rfl) (by kernel_rfl) ?_
      repeat (first | (refine soft_step (fun K hK => ?_); go_simp; (try go_bits); refine hK _ ?_; clear hK K) | (refine soft_step (fun K hK => ?_); go_simp; refine ⟨_, _, ⟨rfl, rfl⟩, fun zz => (eqWell_any e.x e.y e.r _).mono ?_, ?_⟩; (rintro e1 w1 ⟨he, hb⟩; exact ⟨_, he, rfl, hb⟩); rintro v rfl; refine hK _ ?_; clear hK K))
      refine soft_nil ?_
      rintro w5 hw5
      have HB5 := Lib.hid (below_next HB.out hw5.below)
      clear hw5
      go_wp2_with fail
      go_roundw
      case rel => exact ⟨j + 1, by omega, by go_num, HB5.out⟩
      case measure => simp [intOf]; omega
    · have j1 : ¬ (j : Int) < (l.length : Int) := by omega
      go_wp2_with fail
      go_ret
      exact ⟨rfl, HB.out⟩
end Go.Proofs.YtekemhibnokhcaaDoor
