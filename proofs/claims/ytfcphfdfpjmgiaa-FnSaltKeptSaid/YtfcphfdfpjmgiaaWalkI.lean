/- The program's path of the water: the walk. -/
import Derived.Test.YtfcphfdfpjmgiaaWay
import Derived.Test.YtfcphfdfpjmgiaaFlist
namespace Go.Proofs.Ytfcphfdfpjmgiaa
open Go.RowKit

theorem Try.info2 : (Try.prog.info? 2).map (fun i => (i.zero, i.size, i.bytes)) = some (some (.int .i64 0), 1, 8) := by kernel_rfl

theorem listAt64 {w : World} {base : Nat} {v : Value} {l : List Nat} (h : w.ownsRow base 2 1 v l.length (ints l)) : ListAt w v l := by
  have h' := h
  obtain ⟨h1, h2 | ⟨g, cap, cur, rfl, hb, hg, _⟩⟩ := h
  · obtain ⟨rfl, h0⟩ := h2
    refine ⟨none, 0, by rw [h0], fun j c hc => ?_⟩
    have : l = [] := List.eq_nil_of_length_eq_zero h0
    subst this; cases hc
  · refine ⟨_, cap, rfl, fun j c hc => ⟨g, rfl, ?_⟩⟩
    have hj : j < l.length := (List.getElem?_eq_some_iff.1 hc).1
    have := World.ownsRow.cellAt (w := w) (base := base) (e := 2) (size := 1) (g := g) (n := l.length) (cap := cap) (xs := ints l) h' j (by omega)
    rw [this]
    simp [ints, hc]

/-- A number is no cell, or the number of a cell. -/
def CellZ (m : M) (z : Int) : Prop := z = -1 ∨ ∃ k : Nat, z = k ∧ k < 64 ∧ hasB m.wide m.high k = true

def WayRel (m : M) (c : Nat) (w : World) (v1 v5 : Value) (wr : World) : Prop :=
  ∃ (z : Int) (l : List Nat), v1 = .int .i64 z ∧ CellZ m z ∧ wr.ownsRow w.heap.size 2 1 v5 l.length (ints l) ∧ way m (65 - l.length) l z = pathOf m c ∧ l.Nodup ∧ (∀ x ∈ l, x < 64) ∧ Below w.heap.size w wr
def TopRel (m : M) (k : Nat) (w : World) (v6 v7 v23 : Value) (wr : World) : Prop :=
  ∃ (s r : Nat), s ≤ 4 ∧ v23 = .int .i64 s ∧ v7 = .float .f32 r ∧ Is r (topTo m k s).2 ∧ v6 = .int .i64 (nextI m k s) ∧ CellZ m (nextI m k s) ∧ Below w.heap.size w wr

def sLen : Value → Nat
  | .slice _ n _ => n
  | _ => 0

/-- A list of whole numbers in new memory is handed back. -/
def RetL64 (l : List Nat) (w : World) (e : Ending) (w' : World) : Prop := ∃ v, e = .returned v ∧ w'.ownsRow w.heap.size 2 1 v l.length (ints l) ∧ Below w.heap.size w w'

set_option maxRecDepth 100000 in
set_option maxHeartbeats 1600000 in
theorem path_any (b o c : Nat) (g : G) (w : World) (hs : g.Sane) (hok : okI g.m = true) (hc : c < 64) (hh : hasB g.wide g.high c = true) (hg : GAt w b o g) :
    Calls Try.prog 143 #[.pointer (some ⟨b, o, none⟩), .int .i64 c] w (RetL64 (pathOf g.m c) w) := by
  have hr := hs.rng
  have HOK := Lib.hid hok
  have HH0 := Lib.hid hh
  obtain ⟨i0, hi, hz0, hz1, hz2⟩ := info_parts Try.info2
  clear hok hh
  go_enter Try.func143, Try.ntmps143
  go_wp2_with fail
  go_loopw [1, 5] (fun v1 v5 wr => WayRel g.m c w v1 v5 wr) (fun _ v5 _ => 65 - sLen v5)
  case atStart => exact ⟨c, [], rfl, .inr ⟨c, rfl, hc, HH0.out⟩, World.ownsRow_lit w #[] 0 (Nat.le_refl _) (by simp [maxLen]) rfl, rfl, by simp, by simp, (Below.refl _ _).alloc (Nat.le_refl _) _⟩
  case round =>
    obtain ⟨z, l, rfl, hz, hown, hway, hnd, hlt64, hB⟩ := hrel
    have HO := Lib.hid hown
    have HW := Lib.hid hway
    have HN := Lib.hid hnd
    have HL := Lib.hid hlt64
    have HB := Lib.hid hB
    have HG := Lib.hid (hg.below hB)
    have hlen : l.length ≤ 64 := nodup_length 64 l hnd hlt64
    have hsl : sLen u5 = l.length := by
      obtain ⟨a, cap, rfl, _⟩ := listAt64 hown
      rfl
    clear hown hway hnd hlt64 hB
    rcases hz with rfl | ⟨k, rfl, hk, hhk⟩
    · have HP : Hid (l = pathOf g.m c) := by
        show _ = _
        rw [← HW.out]
        obtain ⟨q, hq⟩ : ∃ q, 65 - l.length = q + 1 := ⟨64 - l.length, by omega⟩
        rw [hq]
        show _ = if _ then _ else _
        rw [if_neg (by omega)]
      go_wp2_with fail
      go_ret
      exact ⟨_, rfl, by rw [← HP.out]; exact HO.out, HB.out⟩
    · have HH := Lib.hid hhk
      clear hhk
      have HV := Lib.hid (listAt64 HO.out)
      by_cases hin : k ∈ l
      · have HP : Hid (l = pathOf g.m c) := by
          show _ = _
          rw [← HW.out]
          obtain ⟨q, hq⟩ : ∃ q, 65 - l.length = q + 1 := ⟨64 - l.length, by omega⟩
          rw [hq]
          show _ = if _ then _ else _
          rw [if_neg (by rintro ⟨_, h⟩; exact h (by simpa using hin))]
        have HD : Hid (decide (k ∈ l) = true) := decide_eq_true hin
        clear hin
        go_wp2_with (go_at_call 189; refine (Contains_any _ l k _ hlen HV.out).mono ?_; rw [HD.out]; rintro e w2 ⟨rfl, hb2⟩)
        have HB2 := Lib.hid hb2
        go_ret
        exact ⟨_, rfl, by rw [← HP.out]; exact owns_below HO.out HB2.out, HB.out.trans (HB2.out.mono HB.out.size)⟩
      · have HD : Hid (decide (k ∈ l) = false) := decide_eq_false hin
        have HNI := Lib.hid hin
        have hlen1 : l.length + 1 ≤ 64 := by
          have := nodup_length 64 (l ++ [k]) (by rw [List.nodup_append]; exact ⟨HN.out, by simp, fun x hx y hy => by rw [List.mem_singleton.1 hy]; exact fun e => hin (e ▸ hx)⟩) (fun x hx => by rcases List.mem_append.1 hx with h | h; exact HL.out x h; rw [List.mem_singleton.1 h]; exact hk)
          simpa using this
        clear hin
        have hbs := HB.out.size
        go_wp2_with (first | (go_at_call 189; refine (Contains_any _ l k _ hlen HV.out).mono ?_; rw [HD.out]; rintro e w2 ⟨rfl, hb2⟩; have hown2 := owns_below HO.out hb2; have hbs2 := hb2.size) | (at_builtin; refine wpList_append_own _ rfl _ _ 68 rfl w.heap.size 2 i0 (.int .i64 0) 1 8 Try.underlying68 hi hz0 hz1 hz2 rfl (by decide) _ _ _ rfl (hown2.alloc _) ⟨w2.heap.size, 0, none⟩ 1 1 [.int .i64 k] rfl rfl (cell_one_new _ _ _) (by simp [Value.oneCell']) (by unfold maxLen; omega) (by omega) (by simp; omega) ?_))
        intro v' w3 hown3 hgrow _
        have HO3 := Lib.hid hown3
        have HB3 := Lib.hid hgrow
        have HB2 := Lib.hid hb2
        clear hown3 hgrow hown2 hb2
        have HBw3 : Hid (Below w.heap.size w w3) := ((HB.out.trans (HB2.out.mono hbs)).alloc (by omega) _).grown HB3.out (by simp; omega) (fun q hq => (HO.out.lt q hq).1)
        have HG3 := Lib.hid (hg.below HBw3.out)
        have HW2 : Hid (way g.m (65 - (l ++ [k]).length) (l ++ [k]) (nextI g.m k 4) = pathOf g.m c) := by
          show _ = _
          rw [← HW.out]
          obtain ⟨q, hq⟩ : ∃ q, 65 - l.length = q + 1 := ⟨64 - l.length, by omega⟩
          rw [hq, List.length_append, show 65 - (l.length + [k].length) = q by simp; omega]
          show _ = if _ then _ else _
          rw [if_pos ⟨by omega, by simpa using HNI.out⟩]
          rfl
        have hsl3 : sLen v' = l.length + 1 := by
          have e : w3.ownsRow w.heap.size 2 1 v' (l ++ [k]).length (ints (l ++ [k])) := by rw [ints_snoc, List.length_append]; exact HO3.out
          obtain ⟨a, cap, rfl, _⟩ := listAt64 e
          simp [sLen]
        have hgt := order_gt
        clear HB2 HB3
        go_wp2_with fail
        go_loopw [6, 7, 23] (fun v6 v7 v23 wr2 => TopRel g.m k w3 v6 v7 v23 wr2) (fun _ _ v23 _ => 4 - (intOf v23).toNat)
        case atStart => exact ⟨0, 0, by omega, rfl, rfl, fb0, rfl, .inl rfl, Below.refl _ _⟩
        case round =>
          obtain ⟨s, r, hs4, rfl, rfl, hr7, rfl, hz6, hB4⟩ := hrel
          have HR7 := Lib.hid hr7
          have HZ6 := Lib.hid hz6
          have HB4 := Lib.hid hB4
          have HG4 := Lib.hid (HG3.out.below hB4)
          clear hr7 hz6 hB4
          by_cases hlt2 : s < 4
          · go_wp2_with fail
            refine (flow_any b o k s g _ hk hlt2 hr hs.hW hs.hH HG4.out).mono ?_
            rintro e w5 ⟨rf, rfl, hrf, hb5⟩
            have HB5 := Lib.hid (HB4.out.trans (hb5.mono HB4.out.size))
            have HG5 := Lib.hid (HG4.out.below hb5)
            clear hb5
            cases hcmp : fgt (fb rf) (fb r)
            · have HT : Hid (topTo g.m k (s + 1) = topTo g.m k s) := topTo_no (by rw [← hrf.out, ← HR7.out.out]; exact hcmp)
              go_wp2_with fail
              go_roundw
              case rel => exact ⟨s + 1, r, by omega, by go_num, rfl, by rw [HT.out]; exact HR7.out, by unfold nextI; rw [HT.out], by unfold nextI; rw [HT.out]; exact HZ6.out, HB5.out⟩
              case measure => simp [intOf]; omega
            · have hcm : fgt (flow g.m k s) (topTo g.m k s).2 = true := by rw [← hrf.out, ← HR7.out.out]; exact hcmp
              have HT : Hid (topTo g.m k (s + 1) = (some s, flow g.m k s)) := topTo_yes hcm
              have hbes := top_beside HOK.out hk HH.out hcm
              obtain ⟨n, hn⟩ : ∃ n : Nat, beside g.wide g.high k s = n := ⟨(beside g.wide g.high k s).toNat, by have : 0 ≤ beside g.wide g.high k s := hbes; omega⟩
              have hnn := beside_has hk hs.hW hs.hH hn
              have HN2 := Lib.hid hn
              have HRF := Lib.hid hrf
              clear hcm hbes hn hrf
              go_wp2_with (go_at_call 164; refine (beside_any b o k s g _ hk hlt2 hr HG5.out).mono ?_; rintro e w' ⟨rfl, rfl⟩)
              go_roundw
              case rel => exact ⟨s + 1, rf, by omega, by go_num, rfl, by rw [HT.out]; exact HRF.out, by unfold nextI; rw [HT.out]; rfl, by unfold nextI; rw [HT.out]; exact .inr ⟨n, HN2.out, hnn⟩, HB5.out⟩
              case measure => simp [intOf]; omega
          · obtain rfl : s = 4 := by omega
            go_wp2_with fail
            go_roundw
            case rel =>
              refine ⟨_, l ++ [k], rfl, HZ6.out, ?_, HW2.out, ?_, ?_, HBw3.out.trans (HB4.out.mono HBw3.out.size)⟩
              · rw [ints_snoc, List.length_append]; exact owns_below HO3.out HB4.out
              · rw [List.nodup_append]; exact ⟨HN.out, by simp, fun x hx y hy => by rw [List.mem_singleton.1 hy]; exact fun e => HNI.out (e ▸ hx)⟩
              · intro x hx; rcases List.mem_append.1 hx with h | h; exact HL.out x h; rw [List.mem_singleton.1 h]; exact hk
            case measure => rw [hsl3, hsl]; omega
end Go.Proofs.Ytfcphfdfpjmgiaa
