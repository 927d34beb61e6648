/- The saltiest cell: both sides. -/
import Derived.Test.YtfcphfdfpjmgiaaBrFree
import Derived.Test.YtfcphfdfpjmgiaaTold
import Derived.Test.YtfcphfdfpjmgiaaAt
namespace Go.Proofs.Ytfcphfdfpjmgiaa
open Go.RowKit

/-! Amounts: their size is their number. -/
theorem amount_bits {b : Nat} (h : amount (some b) = true) (hb : b < 4294967296) : b < 2147483648 ∨ b = 2147483648 := by
  unfold amount at h
  rw [Bool.and_eq_true] at h
  obtain ⟨b', s, m, e, e1, hd⟩ := plain_num h.1
  cases e1
  have hbi : Ieee.single.binade = 8388608 := rfl
  have hi : Ieee.single.infRung = 2139095040 := rfl
  have hs : Ieee.single.signWeight = 2147483648 := rfl
  rcases Nat.lt_or_ge b 2147483648 with h1 | h1
  · exact .inl h1
  · refine .inr ?_
    have hsg : (b / 2147483648 % 2 == 1) = true := by
      have : b / 2147483648 = 1 := by omega
      rw [this]; rfl
    have hneg : ∃ m', Ieee.single.read b = .number true m' e ∧ (m' = 0 → b = 2147483648) := by
      unfold Ieee.Format.read at hd ⊢
      simp only [hbi, hi, hs, hsg] at hd ⊢
      split at hd
      · rename_i h0
        cases hd
        rw [if_pos h0]
        exact ⟨_, rfl, fun _ => by omega⟩
      · rename_i h0
        rw [if_neg h0]
        split at hd
        · rename_i h2
          cases hd
          rw [if_pos h2]
          exact ⟨_, rfl, fun h3 => by omega⟩
        · rename_i h2
          split at hd
          · cases hd
          · cases hd
    obtain ⟨m', hr, hm⟩ := hneg
    apply hm
    have h2 := h.2
    unfold fge fgt feq at h2
    have : ford (some b) (some 0) = (Ieee.single.read b).order (Ieee.single.read 0) := rfl
    rw [this, hr, read0] at h2
    simp only [Ieee.Datum.order] at h2
    by_cases hz : m' = 0
    · exact hz
    · exfalso
      have hlt : Ieee.signed true m' (e - min e (-149)).toNat < Ieee.signed false 0 (-149 - min e (-149)).toNat := by
        have p : 0 < m' <<< (e - min e (-149)).toNat := by
          rw [Nat.shiftLeft_eq]; exact Nat.mul_pos (by omega) (Nat.two_pow_pos _)
        have e1 : Ieee.signed true m' (e - min e (-149)).toNat = -((m' <<< (e - min e (-149)).toNat : Nat) : Int) := rfl
        have e2 : Ieee.signed false 0 (-149 - min e (-149)).toNat = ((0 <<< (-149 - min e (-149)).toNat : Nat) : Int) := rfl
        rw [e1, e2, Nat.zero_shiftLeft]
        omega
      rw [Int.compare_eq_lt.2 hlt] at h2
      simp at h2

theorem fabs_amount {b : Nat} (h : amount (some b) = true) (hb : b < 4294967296) (c : F) : ford (fabs (some b)) c = ford (some b) c ∧ ford c (fabs (some b)) = ford c (some b) := by
  have hp := h
  unfold amount at hp
  rw [Bool.and_eq_true] at hp
  obtain ⟨b', s, m, e, e1, hd⟩ := plain_num hp.1
  cases e1
  have hle : b % 2147483648 ≤ 2139095040 := by
    rcases Nat.lt_or_ge 2139095040 (b % 2147483648) with h1 | h1
    · exfalso
      have hbi : Ieee.single.binade = 8388608 := rfl
      have hi : Ieee.single.infRung = 2139095040 := rfl
      have hs : Ieee.single.signWeight = 2147483648 := rfl
      unfold Ieee.Format.read at hd
      simp only [hbi, hi, hs] at hd
      rw [if_neg (by omega), if_neg (by omega), if_neg (by omega)] at hd
      cases hd
    · exact h1
  rw [fabs_num b hb hle]
  rcases amount_bits h hb with h1 | h1
  · rw [Nat.mod_eq_of_lt h1]; exact ⟨rfl, rfl⟩
  · subst h1
    have key : ∀ c, ford (some 0) c = ford (some 2147483648) c := by
      intro c
      cases c with
      | none => rfl
      | some c =>
        show (Ieee.single.read 0).order (Ieee.single.read c) = (Ieee.single.read 2147483648).order (Ieee.single.read c)
        rw [read0, show Ieee.single.read 2147483648 = .number true 0 (-149) by decide]
        cases Ieee.single.read c with
        | nan => rfl
        | infinity t => cases t <;> rfl
        | number t n j => simp [Ieee.Datum.order, Ieee.signed]
    refine ⟨key c, ?_⟩
    show ford c (some 0) = _
    rw [ford_swap (some 0) c, ford_swap (some 2147483648) c, key c]

theorem fgt_amount {x y : F} (hx : amount x = true) (hy : amount y = true) (fx : Fits x) (fy : Fits y) : fgt (fabs x) (fabs y) = fgt x y := by
  cases x with
  | none => cases hx
  | some a => cases y with
    | none => cases hy
    | some b =>
      unfold fgt
      rw [(fabs_amount hx (fx a rfl) _).1, (fabs_amount hy (fy b rfl) _).2]

theorem salt_amount {n : N} (h : okB n = true) {c : Nat} (hc : c < 64) (hh : hasB n.g.wide n.g.high c = true) : amount (n.s c) = true := by
  unfold okB at h
  simp only [Bool.and_eq_true] at h
  have h3 := h.2.1
  unfold fieldTo at h3
  have := List.all_eq_true.1 h3 c (List.mem_range.2 hc)
  rw [hh] at this
  exact this

def mostR (n : N) : Int × F × Int := if okB n then (match bestOf n.s (cellsM n.g) with | none => (-1, some 0, 0) | some b => ((b : Int), n.s b, 0)) else (0, some 0, 1)

set_option maxRecDepth 100000 in
set_option maxHeartbeats 1600000 in
theorem SaltiestCell_any (x : Br) (w : World) (hr : x.gr.Rng) (hx : x.gr.Fx) (hfit : ∀ c, Fits (fm x.s c)) :
    Calls Try.prog 40 #[.agg (arrB x)] w (RetIFI (mostR x.n) w) := by
  cases hok : okB x.n
  · have HW : Hid (mostR x.n = (0, some 0, 1)) := by show _ = _; unfold mostR; rw [hok]; rfl
    have HOK := Lib.hid hok
    clear hok
    go_enter Try.func40, Try.ntmps40
    go_wp2_with (with_reducible refine wpList_box rfl ?_)
    intro b w1 hB1 hB2 hB3 hB4
    go_wp2_with ((with_reducible refine wpList_getB hB3 ?_ ?_); rfl)
    refine (ValidBrine_any x w1 hr hx).mono ?_
    rw [HOK.out]
    rintro e w3 ⟨rfl, hb3⟩
    have HB := Lib.hid (hB4.trans (hb3.mono hB4.size))
    clear hB3 hB4 hb3
    go_wp2_with fail
    refine ret_tmp3 rfl rfl ?_
    exact ⟨0, by rw [HW.out]; rfl, by rw [HW.out]; exact fb0, HB.out⟩
  · have hs := sane_of (okB_g hok) hx
    obtain ⟨bb, hbb⟩ := bestOf_some (d := fm x.s) (cells_ne (m := x.gr.m) hs.lW hs.lH)
    have hb64 : bb < 64 := cellsTo_lt (bestOf_mem hbb)
    have b1 : (bb : Int) < 64 := by omega
    have HBEST := Lib.hid hbb
    have HW : Hid (mostR x.n = ((bb : Int), fm x.s bb, 0)) := by
      show _ = _; unfold mostR; rw [hok, show bestOf x.n.s (cellsM x.n.g) = some bb from hbb]; rfl
    have HOK := Lib.hid hok
    clear hok hbb
    go_enter Try.func40, Try.ntmps40
    go_wp2_with (with_reducible refine wpList_box rfl ?_)
    intro b w1 hB1 hB2 hB3 hB4
    go_wp2_with ((with_reducible refine wpList_getB hB3 ?_ ?_); rfl)
    refine (ValidBrine_any x w1 hr hx).mono ?_
    rw [HOK.out]
    rintro e w3 ⟨rfl, hb3⟩
    have HX3 := Lib.hid ((BAt.of_blk hB3).below hb3)
    have HB := Lib.hid (hB4.trans (hb3.mono hB4.size))
    clear hB3 hB4 hb3
    go_wp2_with fail
    refine (cells_any b 0 x.gr w3 hr HX3.out.g).mono ?_
    rintro e w4 ⟨v, rfl, hown, hb4⟩
    have hL := listAt_of hown
    have HX4 := Lib.hid (HX3.out.below hb4)
    have HB4 := Lib.hid (HB.out.trans (hb4.mono HB.out.size))
    clear hown hb4
    go_wp2_with fail
    refine (greatest_at b 195 v (cellsTo x.gr.wide x.gr.high 64) x.s w4 (fun c hc => cellsTo_lt hc) (cellsTo_length _ _ _) hfit hL HX4.out.fs).mono ?_
    rw [show bestOf (fm x.s) (cellsTo x.gr.wide x.gr.high 64) = some bb from HBEST.out]
    rintro e w5 ⟨rfl, hb5⟩
    have hcell := (HX4.out.below hb5).s hb64
    have HB5 := Lib.hid (HB4.out.trans (hb5.mono HB4.out.size))
    clear hb5 hL
    rw [show bestI (some bb) = (bb : Int) from rfl]
    go_wp2_with fail
    go_quiet (fail)
    go_wp2_with fail
    refine ret_tmp3 rfl rfl ?_
    exact ⟨x.s bb, by rw [HW.out]; rfl, by rw [HW.out]; exact (fm_of hb64).symm, below_drawn HB5.out _⟩

def MostRel (n : N) (w : World) (v5 v6 : Value) (wr : World) : Prop :=
  ∃ k z : Nat, 1 ≤ k ∧ k ≤ 64 ∧ v6 = .int .i64 k ∧ v5 = .int .i64 z ∧ bestOf n.s (cellsTo n.g.wide n.g.high k) = some z ∧ Below w.heap.size w wr

end Go.Proofs.Ytfcphfdfpjmgiaa
