/- slices.DeleteFunc on a list of cells, with the program's own predicates. -/
import Derived.Test.YtfcphfdfpjmgiaaRelax
import Derived.Test.YtfcphfdfpjmgiaaFlist
import Derived.Lib.SliceRun
namespace Go.Proofs.Ytfcphfdfpjmgiaa
open Go.RowKit

/-- A list of whole numbers in a block of its own. -/
def LBlk (w : World) (gq cap : Nat) (l : List Nat) : Prop :=
  ∃ cur : Array Value, Blk w gq cur 3 ∧ cur.size = cap ∧ l.length ≤ cap ∧ ∀ j c : Nat, l[j]? = some c → cur[j]? = some (.int .i64 c)
theorem LBlk.later {w w' : World} {gq cap : Nat} {l : List Nat} (h : LBlk w gq cap l) (hb : Below w.heap.size w w') : LBlk w' gq cap l := by
  obtain ⟨cur, h1, h2, h3, h4⟩ := h; exact ⟨cur, h1.later hb, h2, h3, h4⟩
theorem LBlk.lt {w : World} {gq cap : Nat} {l : List Nat} (h : LBlk w gq cap l) : gq < w.heap.size := by obtain ⟨cur, h1, _⟩ := h; exact h1.lt
theorem LBlk.list {w : World} {gq cap : Nat} {l : List Nat} (h : LBlk w gq cap l) : ListAt w (.slice (some ⟨gq, 0, none⟩) l.length cap) l := by
  obtain ⟨cur, h1, h2, h3, h4⟩ := h
  exact ⟨_, cap, rfl, fun j c hc => ⟨gq, rfl, h1.at (h4 j c hc)⟩⟩
theorem lblk_of {w : World} {base : Nat} {v : Value} {l : List Nat} (h : w.ownsRow base 3 1 v l.length (ints l)) (hne : l ≠ []) :
    ∃ gq cap, v = .slice (some ⟨gq, 0, none⟩) l.length cap ∧ base ≤ gq ∧ LBlk w gq cap l := by
  obtain ⟨h1, h2 | ⟨g, cap, cur, rfl, hb, hg, hn, hm, hs, ht⟩⟩ := h
  · exact absurd (List.eq_nil_of_length_eq_zero h2.2) hne
  · refine ⟨g, cap, rfl, hb, cur, hg, by omega, hn, fun j c hc => ?_⟩
    have hj : j < l.length := (List.getElem?_eq_some_iff.1 hc).1
    have e : (cur.toList.take (l.length * 1))[j]? = (ints l)[j]? := by rw [ht]
    rw [List.getElem?_take, if_pos (by omega), Array.getElem?_toList] at e
    rw [e]; simp [ints, hc]

/-- Where the search ends. -/
def IdxRes (p : Nat → Bool) (l : List Nat) (z : Int) : Prop :=
  (z = -1 ∧ ∀ c ∈ l, p c = false) ∨ ∃ i c : Nat, z = i ∧ l[i]? = some c ∧ p c = true ∧ ∀ c' ∈ l.take i, p c' = false

def IdxRel (p : Nat → Bool) (l : List Nat) (w : World) (v8 : Value) (wr : World) : Prop :=
  ∃ j : Nat, j ≤ l.length ∧ v8 = .int .i64 j ∧ (∀ c ∈ l.take j, p c = false) ∧ Below w.heap.size w wr

theorem int_one : (Try.prog.info? 3).map (·.size) = some 1 := by kernel_rfl

/-- The list while it is struck: so many kept in front, the rest behind. -/
def DelRel (p : Nat → Bool) (l : List Nat) (w : World) (gq cap : Nat) (v5 v6 : Value) (wr : World) : Prop :=
  ∃ (i j : Nat) (cur : Array Value), v5 = .int .i64 i ∧ v6 = .int .i64 j ∧ j ≤ l.length ∧ i < j ∧ i = ((l.take j).filter fun c => !p c).length ∧ Blk wr gq cur 3 ∧ cur.size = cap ∧
    (∀ q c : Nat, ((l.take j).filter fun c => !p c)[q]? = some c → cur[q]? = some (.int .i64 c)) ∧ (∀ q c : Nat, j ≤ q → l[q]? = some c → cur[q]? = some (.int .i64 c)) ∧
    (∀ q, q < l.length → ∃ c : Nat, cur[q]? = some (.int .i64 c)) ∧ w.grownBy wr (some gq)

theorem filter_take_all {p : Nat → Bool} {l : List Nat} {i : Nat} (h : ∀ c ∈ l.take i, p c = false) : ((l.take i).filter fun c => !p c) = l.take i := by
  rw [List.filter_eq_self]; intro c hc; rw [h c hc]; rfl

/-- The list that is left. -/
def RetDel (p : Nat → Bool) (l : List Nat) (w : World) (gq cap : Nat) (e : Ending) (w' : World) : Prop :=
  e = .returned (.slice (some ⟨gq, 0, none⟩) (l.filter fun c => !p c).length cap) ∧ LBlk w' gq cap (l.filter fun c => !p c) ∧ w.grownBy w' (some gq)

theorem int_zero : ∀ w, (zeroValue 3).run Try.prog w = .ok (.int .i64 0) w := fun w => by kernel_rfl

set_option maxRecDepth 100000 in
set_option maxHeartbeats 800000 in
theorem idx_fix (gq cap : Nat) (l : List Nat) (b o : Nat) (g : G) (w : World) (hl : ∀ c ∈ l, c < 64) (hlen : l.length ≤ 64) (hv : LBlk w gq cap l) (hs : g.Sane) (hg : GAt w b o g) :
    Calls Try.prog 192 #[.slice (some ⟨gq, 0, none⟩) l.length cap, .func (.func 117) #[.pointer (some ⟨b, o, none⟩)] #[]] w fun e w' => ∃ z, e = .returned (.int .i64 z) ∧ IdxRes (fixB g.fixed) l z ∧ Below w.heap.size w w' := by
  have HV := Lib.hid hv
  clear hv
  go_enter Try.func192, Try.ntmps192
  go_wp2_with fail
  go_loopw [8] (fun v8 wr => IdxRel (fixB g.fixed) l w v8 wr) (fun v8 _ => l.length - (intOf v8).toNat)
  case atStart => exact ⟨0, by omega, rfl, by simp, Below.refl _ _⟩
  case round =>
    obtain ⟨j, hj, rfl, hno, hB⟩ := hrel
    have HNO := Lib.hid hno
    have HB := Lib.hid hB
    have hs' := Lib.hid (hs)
    have hg' := Lib.hid (hg.below HB.out)
    clear hno hB hs hg
    by_cases hlt : j < l.length
    · obtain ⟨c, hc⟩ : ∃ c, l[j]? = some c := ⟨_, List.getElem?_eq_getElem hlt⟩
      have hc64 : c < 64 := hl c (List.mem_of_getElem? hc)
      have hj64 : j < 64 := by omega
      have hcell : wr.cell? ⟨gq, j, none⟩ = some (.int .i64 c) := by
        obtain ⟨cur, h1, _, _, h4⟩ := HV.out.later HB.out
        exact h1.at (h4 j c hc)
      have HC := Lib.hid hc
      have j1 : (j : Int) < (l.length : Int) := by omega
      have c1 : (c : Int) < 64 := by omega
      clear hc
      cases hp : (fixB g.fixed) c
      · have HP := Lib.hid hp
        clear hp
        go_wp2_with (go_at_call 117; refine (fixed_any b o c g _ hc64 hs'.out hg'.out).mono ?_; rw [show (fixB g.fixed) c = false from HP.out]; rintro e w' ⟨rfl, rfl⟩)
        go_roundw
        case rel => exact ⟨j + 1, by omega, by go_num, by rw [take_more HC.out]; intro x hx; rcases List.mem_append.1 hx with h1 | h1; exact HNO.out x h1; rw [List.mem_singleton.1 h1]; exact HP.out, HB.out⟩
        case measure => simp [intOf]; omega
      · have HP := Lib.hid hp
        clear hp
        go_wp2_with (go_at_call 117; refine (fixed_any b o c g _ hc64 hs'.out hg'.out).mono ?_; rw [show (fixB g.fixed) c = true from HP.out]; rintro e w' ⟨rfl, rfl⟩)
        go_ret
        exact ⟨_, rfl, .inr ⟨j, c, rfl, HC.out, HP.out, HNO.out⟩, HB.out⟩
    · have hjn : j = l.length := by omega
      have j1 : ¬ (j : Int) < (l.length : Int) := by omega
      have HN2 : Hid (∀ c ∈ l, (fixB g.fixed) c = false) := by
        have := HNO.out
        rw [List.take_of_length_le (Nat.le_of_eq hjn.symm)] at this; exact this
      clear hjn
      go_wp2_with fail
      go_ret
      exact ⟨_, rfl, .inl ⟨rfl, HN2.out⟩, HB.out⟩

set_option maxRecDepth 100000 in
set_option maxHeartbeats 1600000 in
theorem del_fix (gq cap : Nat) (l : List Nat) (b o : Nat) (g : G) (w : World) (hl : ∀ c ∈ l, c < 64) (hlen : l.length ≤ 64) (hv : LBlk w gq cap l) (hs : g.Sane) (hg : GAt w b o g) (hne : b ≠ gq) :
    Calls Try.prog 160 #[.slice (some ⟨gq, 0, none⟩) l.length cap, .func (.func 117) #[.pointer (some ⟨b, o, none⟩)] #[]] w (RetDel (fixB g.fixed) l w gq cap) := by
  go_enter Try.func160, Try.ntmps160
  go_wp2_with fail
  refine (idx_fix gq cap l b o g w hl hlen hv hs hg).mono ?_
  rintro e w1 ⟨z, rfl, hz, hb1⟩
  have hv1 := hv.later hb1
  rcases hz with ⟨rfl, hno⟩ | ⟨i, c, rfl, hic, hpc, hbef⟩
  · have HF : Hid ((l.filter fun c => !(fixB g.fixed) c) = l) := by
      show _ = _
      rw [List.filter_eq_self]; intro c hc; rw [hno c hc]; rfl
    have HV1 := Lib.hid hv1
    have HB1 := Lib.hid hb1
    clear hno hv1 hb1 hv hs hg
    go_wp2_with fail
    go_ret
    refine ⟨by rw [HF.out]; rfl, by rw [HF.out]; exact HV1.out, grown_below HB1.out⟩
  · have hil : i < l.length := (List.getElem?_eq_some_iff.1 hic).1
    obtain ⟨cur0, hB0, hs0, hlc, hc0⟩ := hv1
    have HB0 := Lib.hid hB0
    have HC0 := Lib.hid hc0
    have HB1 := Lib.hid hb1
    have HSTART : Hid (((l.take (i + 1)).filter fun c => !(fixB g.fixed) c) = l.take i) := by
      show _ = _
      rw [take_more hic, List.filter_append, filter_take_all hbef]
      simp [hpc]
    have hs1 := Lib.hid (hs)
    have hg1 := Lib.hid (hg.below HB1.out)
    have hge : ((i : Int) == -1) = false := beq_eq_false_iff_ne.2 (by omega)
    clear hB0 hc0 hb1 hv hpc hbef hs hg
    go_wp2_with fail
    go_loopw [5, 6] (fun v5 v6 wr => DelRel (fixB g.fixed) l w1 gq cap v5 v6 wr) (fun _ v6 _ => l.length - (intOf v6).toNat)
    case atStart => exact ⟨i, i + 1, cur0, rfl, by go_num, by omega, by omega, by rw [HSTART.out, List.length_take]; omega, HB0.out, hs0, by rw [HSTART.out]; intro q c' hq; exact HC0.out q c' (by rw [List.getElem?_take] at hq; split at hq; exact hq; cases hq), fun q c' _ hq => HC0.out q c' hq, fun q hq => ⟨_, HC0.out q _ (List.getElem?_eq_getElem hq)⟩, grown_refl _ _⟩
    case round =>
      obtain ⟨i, j, cur, rfl, rfl, hj, hij, hi, hB, hs, hkept, hrest, hall, hgr⟩ := hrel
      have HI := Lib.hid hi
      have HB := Lib.hid hB
      have HK := Lib.hid hkept
      have HR := Lib.hid hrest
      have HAL := Lib.hid hall
      have HGR := Lib.hid hgr
      have hs' := hs1
      have hg' := Lib.hid (hg1.out.grown HGR.out hne)
      clear hi hB hkept hrest hall hgr
      by_cases hlt : j < l.length
      · obtain ⟨c, hc⟩ : ∃ c, l[j]? = some c := ⟨_, List.getElem?_eq_getElem hlt⟩
        have hc64 : c < 64 := hl c (List.mem_of_getElem? hc)
        have hcell : wr.cell? ⟨gq, j, none⟩ = some (.int .i64 c) := HB.out.at (HR.out j c (Nat.le_refl _) hc)
        have HC := Lib.hid hc
        have j1 : (j : Int) < (l.length : Int) := by omega
        have i1 : (i : Int) < (l.length : Int) := by omega
        have c1 : (c : Int) < 64 := by omega
        clear hc
        cases hp : (fixB g.fixed) c
        · have HP := Lib.hid hp
          clear hp
          go_wp2_with (first | (go_at_call 117; refine (fixed_any b o c g _ hc64 hs'.out hg'.out).mono ?_; rw [show (fixB g.fixed) c = false from HP.out]; rintro e w' ⟨rfl, rfl⟩) | ((with_reducible refine wpList_gateS ?_); refine wpList_put1 (v := .int .i64 c) int_one HB.out (by omega) rfl rfl rfl rfl ?_))
          intro w3 s3 b3 k3
          have B3 := Lib.hid b3
          have K3 := Lib.hid (grown_trans HGR.out k3)
          have HF2 : Hid (((l.take (j + 1)).filter fun c => !(fixB g.fixed) c) = ((l.take j).filter fun c => !(fixB g.fixed) c) ++ [c]) := by
            show _ = _
            rw [take_more HC.out, List.filter_append]
            simp [HP.out]
          clear b3 k3 hcell
          go_wp2_with fail
          go_roundw
          case rel =>
            have hi2 := HI.out
            refine ⟨i + 1, j + 1, cur.setIfInBounds i (.int .i64 c), by go_num, by go_num, by omega, by omega, by rw [HF2.out, List.length_append, ← HI.out]; rfl, B3.out, by simpa using hs, ?_, ?_, ?_, K3.out⟩
            · rw [HF2.out]
              intro q c' hq
              rw [Array.getElem?_setIfInBounds]
              by_cases e : i = q
              · rw [if_pos e, if_pos (by omega)]
                rw [List.getElem?_append_right (by omega), ← HI.out, e, Nat.sub_self] at hq
                simp at hq; rw [hq]
              · rw [if_neg e]
                refine HK.out q c' ?_
                rcases Nat.lt_or_ge q i with h | h
                · rw [List.getElem?_append_left (by omega)] at hq; exact hq
                · rw [List.getElem?_eq_none (by rw [List.length_append, ← HI.out]; simp; omega)] at hq; cases hq
            · intro q c' hq1 hq
              rw [Array.getElem?_setIfInBounds, if_neg (by omega)]
              exact HR.out q c' (by omega) hq
            · intro q hq
              rw [Array.getElem?_setIfInBounds]
              by_cases e : i = q
              · rw [if_pos e, if_pos (by omega)]; exact ⟨c, rfl⟩
              · rw [if_neg e]; exact HAL.out q hq
          case measure => simp [intOf]; omega
        · have HP := Lib.hid hp
          clear hp
          have HF2 : Hid (((l.take (j + 1)).filter fun c => !(fixB g.fixed) c) = ((l.take j).filter fun c => !(fixB g.fixed) c)) := by
            show _ = _
            rw [take_more HC.out, List.filter_append]
            simp [HP.out]
          go_wp2_with (go_at_call 117; refine (fixed_any b o c g _ hc64 hs'.out hg'.out).mono ?_; rw [show (fixB g.fixed) c = true from HP.out]; rintro e w' ⟨rfl, rfl⟩)
          go_roundw
          case rel => exact ⟨i, j + 1, cur, rfl, by go_num, by omega, by omega, by rw [HF2.out]; exact HI.out, HB.out, hs, by rw [HF2.out]; exact HK.out, fun q c' hq1 hq => HR.out q c' (by omega) hq, HAL.out, HGR.out⟩
          case measure => simp [intOf]; omega
      · have hjn : j = l.length := by omega
        have j1 : ¬ (j : Int) < (l.length : Int) := by omega
        have i1 : (i : Int) < (l.length : Int) := by omega
        have i2 : i < l.length := by omega
        have HFL : Hid ((l.take j) = l) := List.take_of_length_le (Nat.le_of_eq hjn.symm)
        have hcl : ∀ ty, (Builtin.clear_ #[108] ty #[.slice (some ⟨gq, i, none⟩) (l.length - i) (cap - i)]).run Try.prog wr = .ok (.tuple #[]) (wr.setCells gq i (List.replicate (l.length - i) (.int .i64 0))) :=
          fun ty => Lib.run_clear_slice wr _ _ ty _ Try.underlying108 int_zero rfl rfl gq i _ _ (by omega) (fun t ht => by obtain ⟨x, hx⟩ := HAL.out (i + t) (by omega); rw [HB.out.at hx]; rfl) (fun t _ => HB.out.free _)
        clear hjn
        go_wp2
        go_ret
        have hi2 := HI.out
        rw [HFL.out] at hi2
        have hk := HK.out
        rw [HFL.out] at hk
        have hfl := List.length_filter_le (fun c => !(fixB g.fixed) c) l
        obtain ⟨cur', h1, h2, h3⟩ := setCells_blk (List.replicate (l.length - i) (.int .i64 0)) i wr cur HB.out
        refine ⟨by rw [← hi2]; rfl, ⟨cur', h1, by omega, by omega, fun q c' hq => ?_⟩, grown_trans (grown_trans (grown_below HB1.out) HGR.out) (setCells_grown _ _ _)⟩
        rw [h3 q (by rw [hi2]; exact (List.getElem?_eq_some_iff.1 hq).1)]
        exact hk q c' hq

/-- The cells that are not fixed. -/
def freeP (x : Int) (c : Nat) : Bool := !fixB x c
/-- The cells that are not of a colour. -/
def colP (z : Int) (c : Nat) : Bool := decide (¬ (((c % 8 + c / 8) % 2 : Nat) : Int) = z)

set_option maxHeartbeats 400000 in
theorem colour_any (b c : Nat) (z : Int) (w : World) (hc64 : c < 64) (hc : w.cell? ⟨b, 0, none⟩ = some (.int .i64 z)) :
    Calls Try.prog 161 #[.int .i64 c, .pointer (some ⟨b, 0, none⟩)] w fun e w' => e = .returned (.bool (colP z c)) ∧ w = w' := by
  go_enter Try.func161, Try.ntmps161
  go_wp2_with fail
  go_ret
  refine ⟨ret_bool ?_, rfl⟩
  unfold colP
  rw [bne, Bool.beq_eq_decide_eq]
  simp

set_option maxRecDepth 100000 in
set_option maxHeartbeats 800000 in
theorem idx_col (gq cap : Nat) (l : List Nat) (b : Nat) (cl : Int) (w : World) (hl : ∀ c ∈ l, c < 64) (hlen : l.length ≤ 64) (hv : LBlk w gq cap l) (hc : w.cell? ⟨b, 0, none⟩ = some (.int .i64 cl)) :
    Calls Try.prog 192 #[.slice (some ⟨gq, 0, none⟩) l.length cap, .func (.func 161) #[] #[.pointer (some ⟨b, 0, none⟩)]] w fun e w' => ∃ z, e = .returned (.int .i64 z) ∧ IdxRes (colP cl) l z ∧ Below w.heap.size w w' := by
  have HV := Lib.hid hv
  clear hv
  go_enter Try.func192, Try.ntmps192
  go_wp2_with fail
  go_loopw [8] (fun v8 wr => IdxRel (colP cl) l w v8 wr) (fun v8 _ => l.length - (intOf v8).toNat)
  case atStart => exact ⟨0, by omega, rfl, by simp, Below.refl _ _⟩
  case round =>
    obtain ⟨j, hj, rfl, hno, hB⟩ := hrel
    have HNO := Lib.hid hno
    have HB := Lib.hid hB
    have hc' := Lib.hid (cell_below HB.out hc)
    clear hno hB hc
    by_cases hlt : j < l.length
    · obtain ⟨c, hq⟩ : ∃ c, l[j]? = some c := ⟨_, List.getElem?_eq_getElem hlt⟩
      have hc64 : c < 64 := hl c (List.mem_of_getElem? hq)
      have hj64 : j < 64 := by omega
      have hcell : wr.cell? ⟨gq, j, none⟩ = some (.int .i64 c) := by
        obtain ⟨cur, h1, _, _, h4⟩ := HV.out.later HB.out
        exact h1.at (h4 j c hq)
      have HC := Lib.hid hq
      have j1 : (j : Int) < (l.length : Int) := by omega
      have c1 : (c : Int) < 64 := by omega
      clear hq
      cases hp : (colP cl) c
      · have HP := Lib.hid hp
        clear hp
        go_wp2_with (go_at_call 161; refine (colour_any b c cl _ hc64 hc'.out).mono ?_; rw [show (colP cl) c = false from HP.out]; rintro e w' ⟨rfl, rfl⟩)
        go_roundw
        case rel => exact ⟨j + 1, by omega, by go_num, by rw [take_more HC.out]; intro x hx; rcases List.mem_append.1 hx with h1 | h1; exact HNO.out x h1; rw [List.mem_singleton.1 h1]; exact HP.out, HB.out⟩
        case measure => simp [intOf]; omega
      · have HP := Lib.hid hp
        clear hp
        go_wp2_with (go_at_call 161; refine (colour_any b c cl _ hc64 hc'.out).mono ?_; rw [show (colP cl) c = true from HP.out]; rintro e w' ⟨rfl, rfl⟩)
        go_ret
        exact ⟨_, rfl, .inr ⟨j, c, rfl, HC.out, HP.out, HNO.out⟩, HB.out⟩
    · have hjn : j = l.length := by omega
      have j1 : ¬ (j : Int) < (l.length : Int) := by omega
      have HN2 : Hid (∀ c ∈ l, (colP cl) c = false) := by
        have := HNO.out
        rw [List.take_of_length_le (Nat.le_of_eq hjn.symm)] at this; exact this
      clear hjn
      go_wp2_with fail
      go_ret
      exact ⟨_, rfl, .inl ⟨rfl, HN2.out⟩, HB.out⟩

set_option maxRecDepth 100000 in
set_option maxHeartbeats 1600000 in
theorem del_col (gq cap : Nat) (l : List Nat) (b : Nat) (cl : Int) (w : World) (hl : ∀ c ∈ l, c < 64) (hlen : l.length ≤ 64) (hv : LBlk w gq cap l) (hc : w.cell? ⟨b, 0, none⟩ = some (.int .i64 cl)) (hne : b ≠ gq) :
    Calls Try.prog 160 #[.slice (some ⟨gq, 0, none⟩) l.length cap, .func (.func 161) #[] #[.pointer (some ⟨b, 0, none⟩)]] w (RetDel (colP cl) l w gq cap) := by
  go_enter Try.func160, Try.ntmps160
  go_wp2_with fail
  refine (idx_col gq cap l b cl w hl hlen hv hc).mono ?_
  rintro e w1 ⟨z, rfl, hz, hb1⟩
  have hv1 := hv.later hb1
  rcases hz with ⟨rfl, hno⟩ | ⟨i, c, rfl, hic, hpc, hbef⟩
  · have HF : Hid ((l.filter fun c => !(colP cl) c) = l) := by
      show _ = _
      rw [List.filter_eq_self]; intro c hc; rw [hno c hc]; rfl
    have HV1 := Lib.hid hv1
    have HB1 := Lib.hid hb1
    clear hno hv1 hb1 hv hc
    go_wp2_with fail
    go_ret
    refine ⟨by rw [HF.out]; rfl, by rw [HF.out]; exact HV1.out, grown_below HB1.out⟩
  · have hil : i < l.length := (List.getElem?_eq_some_iff.1 hic).1
    obtain ⟨cur0, hB0, hs0, hlc, hc0⟩ := hv1
    have HB0 := Lib.hid hB0
    have HC0 := Lib.hid hc0
    have HB1 := Lib.hid hb1
    have HSTART : Hid (((l.take (i + 1)).filter fun c => !(colP cl) c) = l.take i) := by
      show _ = _
      rw [take_more hic, List.filter_append, filter_take_all hbef]
      simp [hpc]
    have hc1 := Lib.hid (cell_below HB1.out hc)
    have hge : ((i : Int) == -1) = false := beq_eq_false_iff_ne.2 (by omega)
    clear hB0 hc0 hb1 hv hpc hbef hc
    go_wp2_with fail
    go_loopw [5, 6] (fun v5 v6 wr => DelRel (colP cl) l w1 gq cap v5 v6 wr) (fun _ v6 _ => l.length - (intOf v6).toNat)
    case atStart => exact ⟨i, i + 1, cur0, rfl, by go_num, by omega, by omega, by rw [HSTART.out, List.length_take]; omega, HB0.out, hs0, by rw [HSTART.out]; intro q c' hq; exact HC0.out q c' (by rw [List.getElem?_take] at hq; split at hq; exact hq; cases hq), fun q c' _ hq => HC0.out q c' hq, fun q hq => ⟨_, HC0.out q _ (List.getElem?_eq_getElem hq)⟩, grown_refl _ _⟩
    case round =>
      obtain ⟨i, j, cur, rfl, rfl, hj, hij, hi, hB, hs, hkept, hrest, hall, hgr⟩ := hrel
      have HI := Lib.hid hi
      have HB := Lib.hid hB
      have HK := Lib.hid hkept
      have HR := Lib.hid hrest
      have HAL := Lib.hid hall
      have HGR := Lib.hid hgr
      have hc' := Lib.hid (cell_grown hc1.out HGR.out hne)
      clear hi hB hkept hrest hall hgr
      by_cases hlt : j < l.length
      · obtain ⟨c, hq⟩ : ∃ c, l[j]? = some c := ⟨_, List.getElem?_eq_getElem hlt⟩
        have hc64 : c < 64 := hl c (List.mem_of_getElem? hq)
        have hcell : wr.cell? ⟨gq, j, none⟩ = some (.int .i64 c) := HB.out.at (HR.out j c (Nat.le_refl _) hq)
        have HC := Lib.hid hq
        have j1 : (j : Int) < (l.length : Int) := by omega
        have i1 : (i : Int) < (l.length : Int) := by omega
        have c1 : (c : Int) < 64 := by omega
        clear hq
        cases hp : (colP cl) c
        · have HP := Lib.hid hp
          clear hp
          go_wp2_with (first | (go_at_call 161; refine (colour_any b c cl _ hc64 hc'.out).mono ?_; rw [show (colP cl) c = false from HP.out]; rintro e w' ⟨rfl, rfl⟩) | ((with_reducible refine wpList_gateS ?_); refine wpList_put1 (v := .int .i64 c) int_one HB.out (by omega) rfl rfl rfl rfl ?_))
          intro w3 s3 b3 k3
          have B3 := Lib.hid b3
          have K3 := Lib.hid (grown_trans HGR.out k3)
          have HF2 : Hid (((l.take (j + 1)).filter fun c => !(colP cl) c) = ((l.take j).filter fun c => !(colP cl) c) ++ [c]) := by
            show _ = _
            rw [take_more HC.out, List.filter_append]
            simp [HP.out]
          clear b3 k3 hcell
          go_wp2_with fail
          go_roundw
          case rel =>
            have hi2 := HI.out
            refine ⟨i + 1, j + 1, cur.setIfInBounds i (.int .i64 c), by go_num, by go_num, by omega, by omega, by rw [HF2.out, List.length_append, ← HI.out]; rfl, B3.out, by simpa using hs, ?_, ?_, ?_, K3.out⟩
            · rw [HF2.out]
              intro q c' hq
              rw [Array.getElem?_setIfInBounds]
              by_cases e : i = q
              · rw [if_pos e, if_pos (by omega)]
                rw [List.getElem?_append_right (by omega), ← HI.out, e, Nat.sub_self] at hq
                simp at hq; rw [hq]
              · rw [if_neg e]
                refine HK.out q c' ?_
                rcases Nat.lt_or_ge q i with h | h
                · rw [List.getElem?_append_left (by omega)] at hq; exact hq
                · rw [List.getElem?_eq_none (by rw [List.length_append, ← HI.out]; simp; omega)] at hq; cases hq
            · intro q c' hq1 hq
              rw [Array.getElem?_setIfInBounds, if_neg (by omega)]
              exact HR.out q c' (by omega) hq
            · intro q hq
              rw [Array.getElem?_setIfInBounds]
              by_cases e : i = q
              · rw [if_pos e, if_pos (by omega)]; exact ⟨c, rfl⟩
              · rw [if_neg e]; exact HAL.out q hq
          case measure => simp [intOf]; omega
        · have HP := Lib.hid hp
          clear hp
          have HF2 : Hid (((l.take (j + 1)).filter fun c => !(colP cl) c) = ((l.take j).filter fun c => !(colP cl) c)) := by
            show _ = _
            rw [take_more HC.out, List.filter_append]
            simp [HP.out]
          go_wp2_with (go_at_call 161; refine (colour_any b c cl _ hc64 hc'.out).mono ?_; rw [show (colP cl) c = true from HP.out]; rintro e w' ⟨rfl, rfl⟩)
          go_roundw
          case rel => exact ⟨i, j + 1, cur, rfl, by go_num, by omega, by omega, by rw [HF2.out]; exact HI.out, HB.out, hs, by rw [HF2.out]; exact HK.out, fun q c' hq1 hq => HR.out q c' (by omega) hq, HAL.out, HGR.out⟩
          case measure => simp [intOf]; omega
      · have hjn : j = l.length := by omega
        have j1 : ¬ (j : Int) < (l.length : Int) := by omega
        have i1 : (i : Int) < (l.length : Int) := by omega
        have i2 : i < l.length := by omega
        have HFL : Hid ((l.take j) = l) := List.take_of_length_le (Nat.le_of_eq hjn.symm)
        have hcl : ∀ ty, (Builtin.clear_ #[108] ty #[.slice (some ⟨gq, i, none⟩) (l.length - i) (cap - i)]).run Try.prog wr = .ok (.tuple #[]) (wr.setCells gq i (List.replicate (l.length - i) (.int .i64 0))) :=
          fun ty => Lib.run_clear_slice wr _ _ ty _ Try.underlying108 int_zero rfl rfl gq i _ _ (by omega) (fun t ht => by obtain ⟨x, hx⟩ := HAL.out (i + t) (by omega); rw [HB.out.at hx]; rfl) (fun t _ => HB.out.free _)
        clear hjn
        go_wp2
        go_ret
        have hi2 := HI.out
        rw [HFL.out] at hi2
        have hk := HK.out
        rw [HFL.out] at hk
        have hfl := List.length_filter_le (fun c => !(colP cl) c) l
        obtain ⟨cur', h1, h2, h3⟩ := setCells_blk (List.replicate (l.length - i) (.int .i64 0)) i wr cur HB.out
        refine ⟨by rw [← hi2]; rfl, ⟨cur', h1, by omega, by omega, fun q c' hq => ?_⟩, grown_trans (grown_trans (grown_below HB1.out) HGR.out) (setCells_grown _ _ _)⟩
        rw [h3 q (by rw [hi2]; exact (List.getElem?_eq_some_iff.1 hq).1)]
        exact hk q c' hq

end Go.Proofs.Ytfcphfdfpjmgiaa
