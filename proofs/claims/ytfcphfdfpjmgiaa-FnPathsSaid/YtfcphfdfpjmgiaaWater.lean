/- The path of the water and a basin, told with codes: both sides. -/
import Derived.Test.YtfcphfdfpjmgiaaWalkS
import Derived.Test.YtfcphfdfpjmgiaaAsk
namespace Go.Proofs.Ytfcphfdfpjmgiaa
open Go.RowKit

/-- A list in new memory and a code are handed back. -/
def RetSC (l : List Nat) (z : Int) (w : World) (e : Ending) (w' : World) : Prop := ∃ v, e = .returned (.tuple #[v, .int .i64 z]) ∧ w'.ownsRow w.heap.size 2 1 v l.length (ints l) ∧ Below w.heap.size w w'
def wayL (m : M) (z : Int) : List Nat := if askC m z = 0 then pathOf m z.toNat else []

theorem ask_zero {m : M} {z : Int} (h : askC m z = 0) : okI m = true ∧ ∃ k : Nat, z = k ∧ k < 64 ∧ hasB m.wide m.high k = true := by
  unfold askC at h
  split at h
  · rename_i ho
    split at h
    · rename_i hb
      rw [Bool.and_eq_true] at hb
      obtain ⟨h1, h2⟩ := hb
      have h1 := of_decide_eq_true h1
      exact ⟨ho, z.toNat, by omega, by omega, h2⟩
    · exact absurd h (by decide)
  · exact absurd h (by decide)

theorem owns_mono {w : World} {base base' : Nat} {T : TypeId} {v : Value} {n : Nat} {xs : List Value} (h : w.ownsRow base' T 1 v n xs) (hb : base ≤ base') : w.ownsRow base T 1 v n xs := by
  obtain ⟨h1, h2⟩ := h
  exact ⟨h1, h2.imp id fun ⟨g, cap, cur, e, hg, rest⟩ => ⟨g, cap, cur, e, Nat.le_trans hb hg, rest⟩⟩
theorem owns_nil (w : World) (base : Nat) (T : TypeId) : w.ownsRow base T 1 (.slice none 0 0) ([] : List Nat).length (ints []) := ⟨rfl, .inl ⟨rfl, rfl⟩⟩

theorem next_cell {m : M} (h : okI m = true) {k : Nat} (hk : k < 64) (hh : hasB m.wide m.high k = true) : CellZ m (nextI m k 4) := by
  have hsz := sized_of h
  unfold nextI
  cases ht : (topTo m k 4).1 with
  | none => exact .inl rfl
  | some t =>
    obtain ⟨_, hcm⟩ := top_some 4 ht
    have hbes := top_beside h hk hh hcm
    obtain ⟨n, hn⟩ : ∃ n : Nat, beside m.wide m.high k t = n := ⟨(beside m.wide m.high k t).toNat, by omega⟩
    exact .inr ⟨n, hn, beside_has hk hsz.1.2 hsz.2.2 hn⟩
theorem way_good {m : M} (h : okI m = true) : ∀ (n : Nat) (l : List Nat) (z : Int), l.Nodup → (∀ x ∈ l, x < 64) → CellZ m z → (way m n l z).Nodup ∧ (∀ x ∈ way m n l z, x < 64)
  | 0, l, z, h1, h2, _ => ⟨h1, h2⟩
  | n + 1, l, z, h1, h2, h3 => by
    rcases h3 with rfl | ⟨k, rfl, hk, hh⟩
    · rw [way_end]; exact ⟨h1, h2⟩
    · by_cases hin : k ∈ l
      · rw [way_in hin]; exact ⟨h1, h2⟩
      · rw [way_step hin]
        refine way_good h n _ _ ?_ ?_ (next_cell h hk hh)
        · rw [List.nodup_append]; exact ⟨h1, by simp, fun x hx y hy => by rw [List.mem_singleton.1 hy]; exact fun e => hin (e ▸ hx)⟩
        · intro x hx; rcases List.mem_append.1 hx with h | h; exact h2 x h; rw [List.mem_singleton.1 h]; exact hk
theorem path_len {m : M} (h : okI m = true) {k : Nat} (hk : k < 64) (hh : hasB m.wide m.high k = true) : (pathOf m k).length ≤ 64 := by
  obtain ⟨h1, h2⟩ := way_good h 65 [] k (by simp) (by simp) (.inr ⟨k, rfl, hk, hh⟩)
  exact nodup_length 64 _ h1 h2
theorem way_long (m : M) : ∀ (n : Nat) (l : List Nat) (z : Int), l.length ≤ (way m n l z).length
  | 0, l, z => Nat.le_refl _
  | n + 1, l, z => by
    show _ ≤ (if _ then _ else _ : List Nat).length
    split
    · exact Nat.le_trans (by simp) (way_long m n _ _)
    · exact Nat.le_refl _
theorem path_pos (m : M) (k : Nat) : 1 ≤ (pathOf m k).length := by
  show 1 ≤ (way m 65 [] k).length
  rw [way_step (by simp)]
  exact Nat.le_trans (by simp) (way_long m 64 ([] ++ [k]) (nextI m k 4))
theorem wayL_len (m : M) (z : Int) : (wayL m z).length ≤ 64 := by
  unfold wayL
  split
  · rename_i h
    obtain ⟨ho, k, rfl, hk, hh⟩ := ask_zero h
    exact path_len ho hk hh
  · simp

set_option maxRecDepth 100000 in
set_option maxHeartbeats 800000 in
theorem WaterPath_any (g : G) (z : Int) (w : World) (hr : g.Rng) (hx : g.Fx) :
    Calls Try.prog 48 #[.agg (arrG g), .int .i64 z] w (RetSC (wayL g.m z) (askC g.m z) w) := by
  by_cases h0 : askC g.m z = 0
  · obtain ⟨hok, k, rfl, hk, hh⟩ := ask_zero h0
    have hs := sane_of hok hx
    have HW : Hid (wayL g.m k = pathOf g.m k) := by show (if _ then _ else _) = _; rw [if_pos h0]; rfl
    have HOK := Lib.hid hok
    have HH := Lib.hid hh
    have H0 := Lib.hid h0
    clear hok hh h0
    go_enter Try.func48, Try.ntmps48
    go_wp2_with (with_reducible refine wpList_box rfl ?_)
    intro b w1 hB1 hB2 hB3 hB4
    go_wp2_with fail
    refine (cellFault_any b _ k g w1 hr hB3).mono ?_
    rw [H0.out]
    rintro e w2 ⟨rfl, hb2⟩
    have HG2 := Lib.hid (hB3.later hb2)
    have HB2 := Lib.hid (hB4.trans (hb2.mono hB4.size))
    clear hB3 hB4 hb2
    go_wp2_with fail
    refine (flowsOk_any b 0 g w2 hs HOK.out (GAt.of_blk HG2.out)).mono ?_
    rintro e w3 ⟨rfl, hb3⟩
    have HG3 := Lib.hid (HG2.out.later hb3)
    have HB3 := Lib.hid (HB2.out.trans (hb3.mono HB2.out.size))
    clear hb3
    go_wp2_with fail
    refine (path_any b 0 k g w3 hs HOK.out hk HH.out (GAt.of_blk HG3.out)).mono ?_
    rintro e w4 ⟨v, rfl, hown, hb4⟩
    have HO := Lib.hid (owns_mono hown HB3.out.size)
    have HB4 := Lib.hid (HB3.out.trans (hb4.mono HB3.out.size))
    clear hown hb4
    go_wp2_with fail
    go_ret2
    exact ⟨v, by rw [H0.out]; rfl, by rw [HW.out]; exact HO.out, HB4.out⟩
  · have HW : Hid (wayL g.m z = []) := by show (if _ then _ else _) = _; rw [if_neg h0]
    obtain ⟨c, hc⟩ : ∃ c, askC g.m z = c := ⟨_, rfl⟩
    rw [hc] at h0 ⊢
    have HC := Lib.hid hc
    clear hc
    go_enter Try.func48, Try.ntmps48
    go_wp2_with (with_reducible refine wpList_box rfl ?_)
    intro b w1 hB1 hB2 hB3 hB4
    go_wp2_with fail
    refine (cellFault_any b _ z g w1 hr hB3).mono ?_
    rw [HC.out]
    rintro e w2 ⟨rfl, hb2⟩
    have HB2 := Lib.hid (hB4.trans (hb2.mono hB4.size))
    clear hB3 hB4 hb2
    go_wp2_with fail
    go_ret2
    exact ⟨_, rfl, by rw [HW.out]; exact owns_nil _ _ _, HB2.out⟩

set_option maxRecDepth 100000 in
set_option maxHeartbeats 800000 in
theorem specWaterPath_any (g : G) (z : Int) (w : World) (hr : g.Rng) (hx : g.Fx) :
    Calls Try.prog 49 #[.agg (arrG g), .int .i64 z] w (RetSC (wayL g.m z) (askC g.m z) w) := by
  by_cases h0 : askC g.m z = 0
  · obtain ⟨hok, k, rfl, hk, hh⟩ := ask_zero h0
    have hs := sane_of hok hx
    have HW : Hid (wayL g.m k = pathOf g.m k) := by show (if _ then _ else _) = _; rw [if_pos h0]; rfl
    have HOK := Lib.hid hok
    have HH := Lib.hid hh
    have H0 := Lib.hid h0
    clear hok hh h0
    go_enter Try.func49, Try.ntmps49
    go_wp2_with (with_reducible refine wpList_box rfl ?_)
    intro b w1 hB1 hB2 hB3 hB4
    go_wp2_with fail
    refine (l01Asked_any b _ k g w1 hr hB3).mono ?_
    rw [H0.out]
    rintro e w2 ⟨rfl, hb2⟩
    have HG2 := Lib.hid (hB3.later hb2)
    have HB2 := Lib.hid (hB4.trans (hb2.mono hB4.size))
    clear hB3 hB4 hb2
    go_wp2_with fail
    refine (l02Path_any b 0 k g w2 hs HOK.out hk HH.out (GAt.of_blk HG2.out)).mono ?_
    rintro e w4 ⟨v, rfl, hown, hb4⟩
    have HO := Lib.hid (owns_mono hown HB2.out.size)
    have HB4 := Lib.hid (HB2.out.trans (hb4.mono HB2.out.size))
    clear hown hb4
    go_wp2_with fail
    go_ret2
    exact ⟨v, by rw [H0.out]; rfl, by rw [HW.out]; exact HO.out, HB4.out⟩
  · have HW : Hid (wayL g.m z = []) := by show (if _ then _ else _) = _; rw [if_neg h0]
    obtain ⟨c, hc⟩ : ∃ c, askC g.m z = c := ⟨_, rfl⟩
    rw [hc] at h0 ⊢
    have HC := Lib.hid hc
    clear hc
    go_enter Try.func49, Try.ntmps49
    go_wp2_with (with_reducible refine wpList_box rfl ?_)
    intro b w1 hB1 hB2 hB3 hB4
    go_wp2_with fail
    refine (l01Asked_any b _ z g w1 hr hB3).mono ?_
    rw [HC.out]
    rintro e w2 ⟨rfl, hb2⟩
    have HB2 := Lib.hid (hB4.trans (hb2.mono hB4.size))
    clear hB3 hB4 hb2
    go_wp2_with fail
    go_ret2
    exact ⟨_, rfl, by rw [HW.out]; exact World.ownsRow_lit _ #[] 0 HB2.out.size (by simp [maxLen]) rfl, HB2.out.alloc HB2.out.size _⟩

/-- The cell at which a path ends. -/
def lastC (m : M) (c : Nat) : Nat := (pathOf m c).getLastD 0
def basP (m : M) (k c : Nat) : Bool := decide (lastC m c = k)
def basL (m : M) (z : Int) : Int := if askC m z = 0 then bitsL ((cellsM m).filter (basP m z.toNat)) else 0
theorem last_at (m : M) (c : Nat) : (pathOf m c)[(pathOf m c).length - 1]? = some (lastC m c) := by
  unfold lastC
  rw [← List.getLast?_eq_getElem?]
  have h := path_pos m c
  cases hl : pathOf m c with
  | nil => rw [hl] at h; simp at h
  | cons x r => simp [List.getLast?_cons]

def RetUC (x z : Int) (w : World) (e : Ending) (w' : World) : Prop := e = .returned (.tuple #[.int .u64 x, .int .i64 z]) ∧ Below w.heap.size w w'
def BasRel (m : M) (k : Nat) (w : World) (v7 v20 : Value) (wr : World) : Prop :=
  ∃ (j : Nat) (x : Int), j ≤ (cellsM m).length ∧ v20 = .int .i64 j ∧ v7 = .int .u64 x ∧ x = bitsL (((cellsM m).take j).filter (basP m k)) ∧ Below w.heap.size w wr
def BasRelS (m : M) (k : Nat) (w : World) (v7 v8 : Value) (wr : World) : Prop :=
  ∃ (j : Nat) (x : Int), j ≤ 64 ∧ v8 = .int .i64 j ∧ v7 = .int .u64 x ∧ x = bitsL ((cellsTo m.wide m.high j).filter (basP m k)) ∧ Below w.heap.size w wr

set_option maxRecDepth 100000 in
set_option maxHeartbeats 1600000 in
theorem BasinOf_any (g : G) (z : Int) (w : World) (hr : g.Rng) (hx : g.Fx) :
    Calls Try.prog 52 #[.agg (arrG g), .int .i64 z] w (RetUC (basL g.m z) (askC g.m z) w) := by
  by_cases h0 : askC g.m z = 0
  · obtain ⟨hok, k, rfl, hk, hh⟩ := ask_zero h0
    have hs := sane_of hok hx
    have HW : Hid (basL g.m k = bitsL ((cellsM g.m).filter (basP g.m k))) := by show (if _ then _ else _) = _; rw [if_pos h0]; rfl
    have HOK := Lib.hid hok
    have H0 := Lib.hid h0
    clear hok hh h0
    go_enter Try.func52, Try.ntmps52
    go_wp2_with (with_reducible refine wpList_box rfl ?_)
    intro b w1 hB1 hB2 hB3 hB4
    go_wp2_with fail
    refine (cellFault_any b _ k g w1 hr hB3).mono ?_
    rw [H0.out]
    rintro e w2 ⟨rfl, hb2⟩
    have HG2 := Lib.hid (hB3.later hb2)
    have HB2 := Lib.hid (hB4.trans (hb2.mono hB4.size))
    clear hB3 hB4 hb2
    go_wp2_with fail
    refine (flowsOk_any b 0 g w2 hs HOK.out (GAt.of_blk HG2.out)).mono ?_
    rintro e w3 ⟨rfl, hb3⟩
    have HG3 := Lib.hid (HG2.out.later hb3)
    have HB3 := Lib.hid (HB2.out.trans (hb3.mono HB2.out.size))
    clear hb3
    go_wp2_with fail
    refine (cells_any b 0 g w3 hr (GAt.of_blk HG3.out)).mono ?_
    rintro e w4 ⟨v, rfl, hown, hb4⟩
    obtain ⟨aL, cap, rfl, hL⟩ := list_form hown
    have HL := Lib.hid hL
    have HG4 := Lib.hid (HG3.out.later hb4)
    have HB4 := Lib.hid (HB3.out.trans (hb4.mono HB3.out.size))
    clear hL hown hb4
    go_wp2_with fail
    go_loopw [7, 20] (fun v7 v20 wr => BasRel g.m k w4 v7 v20 wr) (fun _ v20 _ => (cellsM g.m).length - (intOf v20).toNat)
    case atStart => exact ⟨0, 0, by omega, rfl, rfl, rfl, Below.refl _ _⟩
    case round =>
      obtain ⟨j, x, hj, rfl, rfl, hx7, hB⟩ := hrel
      have HX := Lib.hid hx7
      have HB := Lib.hid hB
      have HG := Lib.hid (HG4.out.later hB)
      clear hx7 hB
      by_cases hlt : j < (cellsM g.m).length
      · obtain ⟨c, hc⟩ : ∃ c, (cellsM g.m)[j]? = some c := ⟨_, List.getElem?_eq_getElem hlt⟩
        have hc64 : c < 64 := cellsTo_lt (List.mem_of_getElem? hc)
        have hch : hasB g.wide g.high c = true := by
          have := List.mem_of_getElem? hc
          unfold cellsM cellsTo at this
          rw [List.mem_filter] at this
          exact this.2
        have hj64 : j < 64 := Nat.lt_of_lt_of_le hlt (cellsTo_length _ _ _)
        obtain ⟨gq, rfl, hq1, hq2, hq3⟩ := HL.out j c hc
        have hq := cell_below HB.out hq3
        have hlt' : (j : Int) < ((cellsTo g.wide g.high 64).length : Int) := by have : j < (cellsTo g.wide g.high 64).length := hlt; omega
        have HC := Lib.hid hc
        have HCH := Lib.hid hch
        clear hc hq3 hch
        go_wp2_with fail
        refine (path_any b 0 c g wr hs HOK.out hc64 HCH.out (GAt.of_blk HG.out)).mono ?_
        rintro e w5 ⟨v5, rfl, hown5, hb5⟩
        obtain ⟨a5, cap5, rfl, hL5⟩ := listAt64 hown5
        have HB5 := Lib.hid (HB.out.trans (hb5.mono HB.out.size))
        obtain ⟨L, hLn⟩ : ∃ L, (pathOf g.m c).length = L + 1 := ⟨(pathOf g.m c).length - 1, by have := path_pos g.m c; omega⟩
        have hlast := last_at g.m c
        have hL64 := path_len HOK.out hc64 HCH.out
        rw [hLn] at hlast hL64 ⊢
        obtain ⟨g5, rfl, hq5⟩ := hL5 L _ hlast
        have L1 : (L : Int) < (L : Int) + 1 := by omega
        clear hown5 hb5 hL5 hlast
        cases hp : basP g.m k c
        · have HP : Hid (((cellsM g.m).take (j + 1)).filter (basP g.m k) = ((cellsM g.m).take j).filter (basP g.m k)) := by show _ = _; rw [take_more HC.out, List.filter_append]; simp [hp]
          have hne : ¬ ((lastC g.m c : Nat) : Int) = (k : Int) := by have := of_decide_eq_false hp; omega
          clear hp
          go_wp2_with fail
          go_roundw
          case rel => exact ⟨j + 1, x, by omega, by go_num, rfl, by rw [HP.out]; exact HX.out, HB5.out⟩
          case measure => simp [intOf]; omega
        · have HP : Hid (((cellsM g.m).take (j + 1)).filter (basP g.m k) = ((cellsM g.m).take j).filter (basP g.m k) ++ [c]) := by show _ = _; rw [take_more HC.out, List.filter_append]; simp [hp]
          have hne : ((lastC g.m c : Nat) : Int) = (k : Int) := by have := of_decide_eq_true hp; omega
          clear hp
          go_wp2_with fail
          go_roundw
          case rel => exact ⟨j + 1, _, by omega, by go_num, rfl, by rw [HP.out, bitsL_snoc, ← HX.out]; rfl, HB5.out⟩
          case measure => simp [intOf]; omega
      · have hjn : j = (cellsM g.m).length := by omega
        have hlt' : ¬ (j : Int) < ((cellsTo g.wide g.high 64).length : Int) := by have : ¬ j < (cellsTo g.wide g.high 64).length := hlt; omega
        have HJ := Lib.hid hjn
        clear hjn
        go_wp2_with fail
        go_ret2
        refine ⟨?_, HB4.out.trans (HB.out.mono HB4.out.size)⟩
        rw [H0.out, HW.out, HX.out, List.take_of_length_le (Nat.le_of_eq HJ.out.symm)]; rfl
  · have HW : Hid (basL g.m z = 0) := by show (if _ then _ else _) = _; rw [if_neg h0]
    obtain ⟨c, hc⟩ : ∃ c, askC g.m z = c := ⟨_, rfl⟩
    rw [hc] at h0 ⊢
    have HC := Lib.hid hc
    clear hc
    go_enter Try.func52, Try.ntmps52
    go_wp2_with (with_reducible refine wpList_box rfl ?_)
    intro b w1 hB1 hB2 hB3 hB4
    go_wp2_with fail
    refine (cellFault_any b _ z g w1 hr hB3).mono ?_
    rw [HC.out]
    rintro e w2 ⟨rfl, hb2⟩
    have HB2 := Lib.hid (hB4.trans (hb2.mono hB4.size))
    clear hB3 hB4 hb2
    go_wp2_with fail
    go_ret2
    exact ⟨by rw [HW.out]; rfl, HB2.out⟩

set_option maxRecDepth 100000 in
set_option maxHeartbeats 1600000 in
theorem specBasinOf_any (g : G) (z : Int) (w : World) (hr : g.Rng) (hx : g.Fx) :
    Calls Try.prog 53 #[.agg (arrG g), .int .i64 z] w (RetUC (basL g.m z) (askC g.m z) w) := by
  by_cases h0 : askC g.m z = 0
  · obtain ⟨hok, k, rfl, hk, hh⟩ := ask_zero h0
    have hs := sane_of hok hx
    have HW : Hid (basL g.m k = bitsL ((cellsM g.m).filter (basP g.m k))) := by show (if _ then _ else _) = _; rw [if_pos h0]; rfl
    have HOK := Lib.hid hok
    have H0 := Lib.hid h0
    clear hok hh h0
    go_enter Try.func53, Try.ntmps53
    go_wp2_with (with_reducible refine wpList_box rfl ?_)
    intro b w1 hB1 hB2 hB3 hB4
    go_wp2_with fail
    refine (l01Asked_any b _ k g w1 hr hB3).mono ?_
    rw [H0.out]
    rintro e w4 ⟨rfl, hb2⟩
    have HG4 := Lib.hid (hB3.later hb2)
    have HB4 := Lib.hid (hB4.trans (hb2.mono hB4.size))
    clear hB3 hB4 hb2
    go_wp2_with fail
    go_loopw [7, 8] (fun v7 v8 wr => BasRelS g.m k w4 v7 v8 wr) (fun _ v8 _ => 64 - (intOf v8).toNat)
    case atStart => exact ⟨0, 0, by omega, rfl, rfl, rfl, Below.refl _ _⟩
    case round =>
      obtain ⟨j, x, hj, rfl, rfl, hx7, hB⟩ := hrel
      have HX := Lib.hid hx7
      have HB := Lib.hid hB
      have HG := Lib.hid (HG4.out.later hB)
      clear hx7 hB
      by_cases hlt : j < 64
      · cases hh : hasB g.wide g.high j
        · have HH := Lib.hid hh
          clear hh
          go_wp2_with (go_at_call 111; refine (l01Is_any b 0 j g _ hlt hr (GAt.of_blk HG.out)).mono ?_; rw [HH.out]; rintro e w' ⟨rfl, rfl⟩)
          go_roundw
          case rel => exact ⟨j + 1, x, by omega, by go_num, rfl, by rw [show cellsTo g.m.wide g.m.high (j + 1) = cellsTo g.m.wide g.m.high j from cellsTo_no HH.out]; exact HX.out, HB.out⟩
          case measure => simp [intOf]; omega
        · have HH := Lib.hid hh
          clear hh
          go_wp2_with (go_at_call 111; refine (l01Is_any b 0 j g _ hlt hr (GAt.of_blk HG.out)).mono ?_; rw [HH.out]; rintro e w' ⟨rfl, rfl⟩)
          refine (l02Path_any b 0 j g wr hs HOK.out hlt HH.out (GAt.of_blk HG.out)).mono ?_
          rintro e w5 ⟨v5, rfl, hown5, hb5⟩
          obtain ⟨a5, cap5, rfl, hL5⟩ := listAt64 hown5
          have HB5 := Lib.hid (HB.out.trans (hb5.mono HB.out.size))
          obtain ⟨L, hLn⟩ : ∃ L, (pathOf g.m j).length = L + 1 := ⟨(pathOf g.m j).length - 1, by have := path_pos g.m j; omega⟩
          have hlast := last_at g.m j
          have hL64 := path_len HOK.out hlt HH.out
          rw [hLn] at hlast hL64 ⊢
          obtain ⟨g5, rfl, hq5⟩ := hL5 L _ hlast
          have L1 : (L : Int) < (L : Int) + 1 := by omega
          clear hown5 hb5 hL5 hlast
          cases hp : basP g.m k j
          · have HP : Hid ((cellsTo g.m.wide g.m.high (j + 1)).filter (basP g.m k) = (cellsTo g.m.wide g.m.high j).filter (basP g.m k)) := by show _ = _; rw [show cellsTo g.m.wide g.m.high (j + 1) = _ from cellsTo_yes HH.out, List.filter_append]; simp [hp]
            have hne : ¬ ((lastC g.m j : Nat) : Int) = (k : Int) := by have := of_decide_eq_false hp; omega
            clear hp
            go_wp2_with fail
            go_roundw
            case rel => exact ⟨j + 1, x, by omega, by go_num, rfl, by rw [HP.out]; exact HX.out, HB5.out⟩
            case measure => simp [intOf]; omega
          · have HP : Hid ((cellsTo g.m.wide g.m.high (j + 1)).filter (basP g.m k) = (cellsTo g.m.wide g.m.high j).filter (basP g.m k) ++ [j]) := by show _ = _; rw [show cellsTo g.m.wide g.m.high (j + 1) = _ from cellsTo_yes HH.out, List.filter_append]; simp [hp]
            have hne : ((lastC g.m j : Nat) : Int) = (k : Int) := by have := of_decide_eq_true hp; omega
            clear hp
            go_wp2_with fail
            go_roundw
            case rel => exact ⟨j + 1, _, by omega, by go_num, rfl, by rw [HP.out, bitsL_snoc, ← HX.out]; rfl, HB5.out⟩
            case measure => simp [intOf]; omega
      · obtain rfl : j = 64 := by omega
        go_wp2_with fail
        go_ret2
        refine ⟨?_, HB4.out.trans (HB.out.mono HB4.out.size)⟩
        rw [H0.out, HW.out, HX.out]; rfl
  · have HW : Hid (basL g.m z = 0) := by show (if _ then _ else _) = _; rw [if_neg h0]
    obtain ⟨c, hc⟩ : ∃ c, askC g.m z = c := ⟨_, rfl⟩
    rw [hc] at h0 ⊢
    have HC := Lib.hid hc
    clear hc
    go_enter Try.func53, Try.ntmps53
    go_wp2_with (with_reducible refine wpList_box rfl ?_)
    intro b w1 hB1 hB2 hB3 hB4
    go_wp2_with fail
    refine (l01Asked_any b _ z g w1 hr hB3).mono ?_
    rw [HC.out]
    rintro e w2 ⟨rfl, hb2⟩
    have HB2 := Lib.hid (hB4.trans (hb2.mono hB4.size))
    clear hB3 hB4 hb2
    go_wp2_with fail
    go_ret2
    exact ⟨by rw [HW.out]; rfl, HB2.out⟩
end Go.Proofs.Ytfcphfdfpjmgiaa
