/- The reference's path of the water: the walk. -/
import Derived.Test.YtfcphfdfpjmgiaaBeen
namespace Go.Proofs.Ytfcphfdfpjmgiaa
open Go.RowKit

theorem odd_form (l : List Nat) (n : Nat) : ((((beenN l : Nat) : Int) / 2 ^ n).tmod 2 == 1) = decide (n ∈ l) := by
  rw [← been_odd]
  have e : ((2 : Int) ^ n) = ((2 ^ n : Nat) : Int) := by simp
  rw [e, ← Int.natCast_ediv]
  generalize beenN l / 2 ^ n = N
  have e2 : ((N : Int)).tmod 2 = ((N % 2 : Nat) : Int) := by rw [Int.tmod_eq_emod_of_nonneg (by omega)]; simp
  rw [e2]
  by_cases h : N % 2 = 1
  · rw [h]; rfl
  · rw [show N % 2 = 0 by omega]; rfl

def sideI : Option Nat → Int
  | none => -1
  | some s => s
def SPathRel (m : M) (c : Nat) (w : World) (v1 v6 v7 : Value) (wr : World) : Prop :=
  ∃ (k : Nat) (l : List Nat), v1 = .int .i64 k ∧ k < 64 ∧ hasB m.wide m.high k = true ∧ wr.ownsRow w.heap.size 2 1 v6 l.length (ints l) ∧ v7 = .int .u64 (beenN l) ∧ way m (65 - l.length) l (nextI m k 4) = pathOf m c ∧ l.Nodup ∧ (∀ x ∈ l, x < 64) ∧ Below w.heap.size w wr
def STopRel (m : M) (k : Nat) (w : World) (v8 v9 v10 : Value) (wr : World) : Prop :=
  ∃ (s r : Nat), s ≤ 4 ∧ v10 = .int .i64 s ∧ v9 = .float .f32 r ∧ Is r (topTo m k s).2 ∧ v8 = .int .i64 (sideI (topTo m k s).1) ∧ Below w.heap.size w wr
/-- A list in new memory and true are handed back. -/
def RetLB (l : List Nat) (w : World) (e : Ending) (w' : World) : Prop := ∃ v, e = .returned (.tuple #[v, .bool true]) ∧ w'.ownsRow w.heap.size 2 1 v l.length (ints l) ∧ Below w.heap.size w w'

theorem wrap_pow {c : Nat} (h : c < 64) : IntKind.u64.wrap (2 ^ c) = ((2 ^ c : Nat) : Int) := by
  have h1 : 2 ^ c < 2 ^ 64 := Nat.pow_lt_pow_right (by decide) h
  have e : ((2 : Int) ^ c) = ((2 ^ c : Nat) : Int) := by simp
  rw [e]
  simp only [IntKind.wrap, IntKind.bits, IntKind.signed]
  simp only [Bool.false_and, Bool.false_eq_true, if_false]
  have : ((2 ^ 64 : Int)) = ((2 ^ 64 : Nat) : Int) := by decide
  rw [this]
  generalize (2 ^ c : Nat) = N at h1 ⊢
  omega
theorem been_or {l : List Nat} {n : Nat} (hl : ∀ x ∈ l, x < 64) (hn : n < 64) : bits BinOp.or IntKind.u64 (beenN l) (IntKind.u64.wrap (2 ^ n)) = ((beenN (l ++ [n]) : Nat) : Int) := by
  rw [wrap_pow hn, beenN_snoc]
  exact u64_or_nat _ _ (beenN_lt hl) (Nat.pow_lt_pow_right (by decide) hn)

theorem top_some {m : M} {k t : Nat} : ∀ s, (topTo m k s).1 = some t → t < s ∧ fgt (flow m k t) (topTo m k t).2 = true
  | 0, h => by cases h
  | s + 1, h => by
    cases hc : fgt (flow m k s) (topTo m k s).2
    · rw [topTo_no hc] at h
      have := top_some s h
      exact ⟨by omega, this.2⟩
    · rw [topTo_yes hc] at h
      cases h
      exact ⟨by omega, hc⟩
theorem way_end (m : M) (n : Nat) (l : List Nat) : way m n l (-1) = l := by
  cases n with
  | zero => rfl
  | succ n => show (if _ then _ else _) = _; rw [if_neg (by omega)]
theorem way_in {m : M} {n c : Nat} {l : List Nat} (h : c ∈ l) : way m n l c = l := by
  cases n with
  | zero => rfl
  | succ n => show (if _ then _ else _) = _; rw [if_neg (by rintro ⟨_, h2⟩; exact h2 (by simpa using h))]
theorem way_step {m : M} {n c : Nat} {l : List Nat} (h : c ∉ l) : way m (n + 1) l c = way m n (l ++ [c]) (nextI m c 4) := by
  show (if _ then _ else _) = _
  rw [if_pos ⟨by omega, by simpa using h⟩]; rfl

set_option maxRecDepth 100000 in
set_option maxHeartbeats 1600000 in
theorem l02Path_any (b o c : Nat) (g : G) (w : World) (hs : g.Sane) (hok : okI g.m = true) (hc : c < 64) (hh : hasB g.wide g.high c = true) (hg : GAt w b o g) :
    Calls Try.prog 145 #[.pointer (some ⟨b, o, none⟩), .int .i64 c] w (RetLB (pathOf g.m c) w) := by
  have hr := hs.rng
  have HOK := Lib.hid hok
  have HH0 := Lib.hid hh
  obtain ⟨i0, hi, hz0, hz1, hz2⟩ := info_parts Try.info2
  clear hok hh
  go_enter Try.func145, Try.ntmps145
  go_wp2_with fail
  have hw0 : Hid (IntKind.u64.wrap (2 ^ c) = ((beenN [c] : Nat) : Int)) := by show _ = _; rw [wrap_pow hc]; simp [beenN]
  go_loopw [1, 6, 7] (fun v1 v6 v7 wr => SPathRel g.m c w v1 v6 v7 wr) (fun _ v6 _ _ => 65 - sLen v6)
  case atStart =>
    refine ⟨c, [c], rfl, hc, HH0.out, ?_, by rw [hw0.out], ?_, by simp, by simpa using hc, (Below.refl _ _).alloc (Nat.le_refl _) _⟩
    · exact World.ownsRow_lit w #[.int .i64 c] 1 (Nat.le_refl _) (by simp [maxLen]) rfl
    · show _ = way g.m 65 [] c
      show _ = if _ then _ else _
      rw [if_pos ⟨by omega, by simp⟩]; rfl
  case round =>
    obtain ⟨k, l, rfl, hk, hhk, hown, rfl, hway, hnd, hlt64, hB⟩ := hrel
    have HH := Lib.hid hhk
    have HO := Lib.hid hown
    have HW := Lib.hid hway
    have HN := Lib.hid hnd
    have HL := Lib.hid hlt64
    have HB := Lib.hid hB
    have HG := Lib.hid (hg.below hB)
    have hsl : sLen u6 = l.length := by
      obtain ⟨a, cap, rfl, _⟩ := listAt64 hown
      rfl
    have hlen : l.length ≤ 64 := nodup_length 64 l hnd hlt64
    have hgt := order_gt
    clear hhk hown hway hnd hlt64 hB
    go_wp2_with fail
    go_loopw [8, 9, 10] (fun v8 v9 v10 wr2 => STopRel g.m k wr v8 v9 v10 wr2) (fun _ _ v10 _ => 4 - (intOf v10).toNat)
    case atStart => exact ⟨0, 0, by omega, rfl, rfl, fb0, rfl, Below.refl _ _⟩
    case round =>
      obtain ⟨s, r, hs4, rfl, rfl, hr7, rfl, hB4⟩ := hrel
      have HR7 := Lib.hid hr7
      have HB4 := Lib.hid hB4
      have HG4 := Lib.hid (HG.out.below hB4)
      clear hr7 hB4
      by_cases hlt2 : s < 4
      · go_wp2_with fail
        refine (l01Flow_any b o k s g _ hk hlt2 hr hs.hW hs.hH HG4.out).mono ?_
        rintro e w5 ⟨rf, rfl, hrf, hb5⟩
        have HB5 := Lib.hid (HB4.out.trans (hb5.mono HB4.out.size))
        have HF : Hid (fin (flow g.m k s) = true) := flow_fin HOK.out hk HH.out
        clear hb5
        go_wp2_with fail
        refine (l01Finite_any rf _ w5 hrf).mono ?_
        rw [HF.out]
        rintro e w6 ⟨rfl, hb6⟩
        have HB6 := Lib.hid (HB5.out.trans (hb6.mono HB5.out.size))
        clear hb6
        cases hcmp : fgt (fb rf) (fb r)
        · have HT : Hid (topTo g.m k (s + 1) = topTo g.m k s) := topTo_no (by rw [← hrf.out, ← HR7.out.out]; exact hcmp)
          go_wp2_with fail
          go_roundw
          case rel => exact ⟨s + 1, r, by omega, by go_num, rfl, by rw [HT.out]; exact HR7.out, by rw [HT.out], HB6.out⟩
          case measure => simp [intOf]; omega
        · have HT : Hid (topTo g.m k (s + 1) = (some s, flow g.m k s)) := topTo_yes (by rw [← hrf.out, ← HR7.out.out]; exact hcmp)
          have HRF := Lib.hid hrf
          clear hrf
          go_wp2_with fail
          go_roundw
          case rel => exact ⟨s + 1, rf, by omega, by go_num, rfl, by rw [HT.out]; exact HRF.out, by rw [HT.out]; rfl, HB6.out⟩
          case measure => simp [intOf]; omega
      · obtain rfl : s = 4 := by omega
        clear hlt2 hs4
        cases htop : (topTo g.m k 4).1 with
        | none =>
          have HP : Hid (l = pathOf g.m c) := by
            show _ = _
            rw [← HW.out, show nextI g.m k 4 = -1 by unfold nextI; rw [htop]]
            exact (way_end _ _ _).symm
          go_wp2_with fail
          go_ret2
          exact ⟨_, rfl, by rw [← HP.out]; exact owns_below HO.out HB4.out, HB.out.trans (HB4.out.mono HB.out.size)⟩
        | some t =>
          obtain ⟨ht4, hcm⟩ := top_some 4 htop
          have hbes := top_beside HOK.out hk HH.out hcm
          obtain ⟨n, hn⟩ : ∃ n : Nat, beside g.wide g.high k t = n := ⟨(beside g.wide g.high k t).toNat, by have : 0 ≤ beside g.wide g.high k t := hbes; omega⟩
          obtain ⟨hn64, hnh⟩ := beside_has hk hs.hW hs.hH hn
          have HNX : Hid (nextI g.m k 4 = n) := by
            show _ = _
            unfold nextI; rw [htop]; exact hn
          have HTL : Hid (t < 4) := ht4
          have HN2 := Lib.hid hn
          have HNH := Lib.hid hnh
          have HL64 := beenN_lt HL.out
          clear hcm hbes hn hnh
          by_cases hin : n ∈ l
          · have HP : Hid (l = pathOf g.m c) := by
              show _ = _
              rw [← HW.out, HNX.out]
              exact (way_in hin).symm
            have hodd : (((beenN l : Nat) : Int) / 2 ^ n).tmod 2 == 1 := by rw [odd_form, decide_eq_true hin]
            have hodd2 : ((((beenN l : Nat) : Int) / 2 ^ n).tmod 2 == 1) = true := hodd
            have HSI : Hid (sideI (some t) = t) := rfl
            clear hin hodd
            rw [HSI.out]
            go_wp2_with (go_at_call 159; refine (l01Beside_any b o k t g _ hk HTL.out hr HG4.out).mono ?_; rw [HN2.out]; rintro e w' ⟨rfl, rfl⟩)
            go_ret2
            exact ⟨_, rfl, by rw [← HP.out]; exact owns_below HO.out HB4.out, HB.out.trans (HB4.out.mono HB.out.size)⟩
          · have hlen1 : l.length + 1 ≤ 64 := by
              have := nodup_length 64 (l ++ [n]) (by rw [List.nodup_append]; exact ⟨HN.out, by simp, fun x hx y hy => by rw [List.mem_singleton.1 hy]; exact fun e => hin (e ▸ hx)⟩) (fun x hx => by rcases List.mem_append.1 hx with h | h; exact HL.out x h; rw [List.mem_singleton.1 h]; exact hn64)
              simpa using this
            have HNI := Lib.hid hin
            have HOR : Hid (bits BinOp.or IntKind.u64 (beenN l) (IntKind.u64.wrap (2 ^ n)) = ((beenN (l ++ [n]) : Nat) : Int)) := been_or HL.out hn64
            have hodd2 : ((((beenN l : Nat) : Int) / 2 ^ n).tmod 2 == 1) = false := by rw [odd_form, decide_eq_false hin]
            have HSI : Hid (sideI (some t) = t) := rfl
            have hown2 := owns_below HO.out HB4.out
            have hbs := HB.out.size
            have hbs4 := HB4.out.size
            clear hin
            rw [HSI.out]
            go_wp2_with (first | (go_at_call 159; refine (l01Beside_any b o k t g _ hk HTL.out hr HG4.out).mono ?_; rw [HN2.out]; rintro e w' ⟨rfl, rfl⟩) | (at_builtin; refine wpList_append_own _ rfl _ _ 68 rfl w.heap.size 2 i0 (.int .i64 0) 1 8 Try.underlying68 hi hz0 hz1 hz2 rfl (by decide) _ _ _ rfl (hown2.alloc _) ⟨wr.heap.size, 0, none⟩ 1 1 [.int .i64 n] rfl rfl (cell_one_new _ _ _) (by simp [Value.oneCell']) (by unfold maxLen; omega) (by omega) (by simp; omega) ?_))
            intro v' w3 hown3 hgrow _
            have HO3 := Lib.hid hown3
            have HB3 := Lib.hid hgrow
            clear hown3 hgrow hown2
            have HBw3 : Hid (Below w.heap.size w w3) := ((HB.out.trans (HB4.out.mono hbs)).alloc (by omega) _).grown HB3.out (by simp; omega) (fun q hq => (HO.out.lt q hq).1)
            have HW2 : Hid (way g.m (65 - (l ++ [n]).length) (l ++ [n]) (nextI g.m n 4) = pathOf g.m c) := by
              show _ = _
              rw [← HW.out, HNX.out]
              obtain ⟨q, hq⟩ : ∃ q, 65 - l.length = q + 1 := ⟨64 - l.length, by omega⟩
              rw [hq, List.length_append, show 65 - (l.length + [n].length) = q by simp; omega]
              exact (way_step HNI.out).symm
            have hsl3 : sLen v' = l.length + 1 := by
              have e : w3.ownsRow w.heap.size 2 1 v' (l ++ [n]).length (ints (l ++ [n])) := by rw [ints_snoc, List.length_append]; exact HO3.out
              obtain ⟨a, cap, rfl, _⟩ := listAt64 e
              simp [sLen]
            clear HB3
            go_wp2_with fail
            go_roundw
            case rel =>
              refine ⟨n, l ++ [n], rfl, hn64, HNH.out, ?_, by rw [HOR.out], HW2.out, ?_, ?_, HBw3.out⟩
              · rw [ints_snoc, List.length_append]; exact HO3.out
              · rw [List.nodup_append]; exact ⟨HN.out, by simp, fun x hx y hy => by rw [List.mem_singleton.1 hy]; exact fun e => HNI.out (e ▸ hx)⟩
              · intro x hx; rcases List.mem_append.1 hx with h | h; exact HL.out x h; rw [List.mem_singleton.1 h]; exact hn64
            case measure => rw [hsl3, hsl]; omega
end Go.Proofs.Ytfcphfdfpjmgiaa
