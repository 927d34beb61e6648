/- What goes out of a cell, and what salt comes in: both sides. -/
import Derived.Test.YtfcphfdfpjmgiaaBrOk
namespace Go.Proofs.Ytfcphfdfpjmgiaa
open Go.RowKit

def outTo (m : M) (k : Nat) : Nat → F
  | 0 => some 0
  | s + 1 => if fgt (flow m k s) (some 0) then fadd (outTo m k s) (flow m k s) else outTo m k s
def outF (m : M) (k : Nat) : F := if flt (m.g k) (some 0) then fadd (outTo m k 4) (fsub (some 0) (m.g k)) else outTo m k 4
def inTo (n : N) (k : Nat) : Nat → F
  | 0 => some 0
  | s + 1 => if flt (flow n.g k s) (some 0) then fadd (inTo n k s) (fmul (fsub (some 0) (flow n.g k s)) (n.s (beside n.g.wide n.g.high k s).toNat)) else inTo n k s
def inF (n : N) (k : Nat) : F := if fgt (n.g.g k) (some 0) then fadd (inTo n k 4) (fmul (n.g.g k) (n.p k)) else inTo n k 4

theorem outTo_yes {m : M} {k s : Nat} (h : fgt (flow m k s) (some 0) = true) : outTo m k (s + 1) = fadd (outTo m k s) (flow m k s) := if_pos h
theorem outTo_no {m : M} {k s : Nat} (h : fgt (flow m k s) (some 0) = false) : outTo m k (s + 1) = outTo m k s := if_neg (by rw [h]; decide)
theorem outF_yes {m : M} {k : Nat} (h : flt (m.g k) (some 0) = true) : outF m k = fadd (outTo m k 4) (fsub (some 0) (m.g k)) := if_pos h
theorem outF_no {m : M} {k : Nat} (h : flt (m.g k) (some 0) = false) : outF m k = outTo m k 4 := if_neg (by rw [h]; decide)
theorem inTo_yes {n : N} {k s c : Nat} (h : flt (flow n.g k s) (some 0) = true) (hc : beside n.g.wide n.g.high k s = c) : inTo n k (s + 1) = fadd (inTo n k s) (fmul (fsub (some 0) (flow n.g k s)) (n.s c)) := by
  show (if _ then _ else _) = _; rw [if_pos h, hc]; rfl
theorem inTo_no {n : N} {k s : Nat} (h : flt (flow n.g k s) (some 0) = false) : inTo n k (s + 1) = inTo n k s := if_neg (by rw [h]; decide)
theorem inF_yes {n : N} {k : Nat} (h : fgt (n.g.g k) (some 0) = true) : inF n k = fadd (inTo n k 4) (fmul (n.g.g k) (n.p k)) := if_pos h
theorem inF_no {n : N} {k : Nat} (h : fgt (n.g.g k) (some 0) = false) : inF n k = inTo n k 4 := if_neg (by rw [h]; decide)
theorem beside_of_flow {m : M} {k s : Nat} (h : flt (flow m k s) (some 0) = true) : 0 ≤ beside m.wide m.high k s := by
  by_cases hb : beside m.wide m.high k s < 0
  · unfold flow at h
    rw [if_pos hb] at h
    exact absurd h (by decide)
  · omega

def SumK (f : Nat → F) (w : World) (v5 v9 : Value) (wr : World) : Prop :=
  ∃ s a : Nat, s ≤ 4 ∧ v9 = .int .i64 s ∧ v5 = .float .f32 a ∧ Is a (f s) ∧ Below w.heap.size w wr

set_option maxRecDepth 100000 in
set_option maxHeartbeats 1600000 in
theorem outB_any (b k : Nat) (x : Br) (w : World) (hk : k < 64) (hs : x.gr.Sane) (hX : BAt w b x) :
    Calls Try.prog 122 #[.pointer (some ⟨b, 0, none⟩), .int .i64 k] w (RetF (outF x.gr.m k) w) := by
  have hgt' := order_gt
  have hlt' := order_lt
  have k1 : (k : Int) < 64 := by omega
  have hr' := hs.rng
  have hW := hs.hW
  have hH := hs.hH
  go_enter Try.func122, Try.ntmps122
  go_wp2_with fail
  go_loopw [5, 9] (fun v5 v9 wr => SumK (outTo x.gr.m k) w v5 v9 wr) (fun _ v9 _ => 4 - (intOf v9).toNat)
  case atStart => exact ⟨0, 0, by omega, rfl, rfl, fb0, Below.refl _ _⟩
  case round =>
    obtain ⟨s, a, hs4, rfl, rfl, ha, hB⟩ := hrel
    have HX := Lib.hid (hX.below hB)
    have HB := Lib.hid hB
    have HA := Lib.hid ha
    clear hB hX ha
    by_cases hlt : s < 4
    · go_wp2_with fail
      refine (flow_any b 0 k s x.gr _ hk hlt hr' hW hH HX.out.g).mono ?_
      rintro e w1 ⟨r1, rfl, hr1, hb1⟩
      have HB1 := Lib.hid (HB.out.trans (hb1.mono HB.out.size))
      have HX1 := Lib.hid (HX.out.below hb1)
      have HR1 := Lib.hid hr1
      clear hb1 hr1
      cases hf : fgt (fb r1) (fb 0)
      · have HF : Hid (fgt (flow x.gr.m k s) (some 0) = false) := by show _ = _; rw [← HR1.out.out, ← fb0]; exact hf
        go_wp2_with fail
        go_roundw
        case rel => exact ⟨s + 1, a, by omega, by go_num, rfl, by rw [outTo_no HF.out]; exact HA.out, HB1.out⟩
        case measure => simp [intOf]; omega
      · have HF : Hid (fgt (flow x.gr.m k s) (some 0) = true) := by show _ = _; rw [← HR1.out.out, ← fb0]; exact hf
        go_wp2_with (((with_reducible refine wpList_gate ?_); refine wpList_arith _ _ rfl rfl rfl ?_; intro r n hr))
        go_roundw
        case rel => exact ⟨s + 1, r, by omega, by go_num, rfl, by rw [outTo_yes HF.out]; exact hr.op HA.out HR1.out, below_drawn HB1.out _⟩
        case measure => simp [intOf]; omega
    · obtain rfl : s = 4 := by omega
      have q1 := HX.out.g.g hk
      simp only [Nat.zero_add] at q1
      cases hg : flt (fb (x.gr.g k)) (fb 0)
      · have HF : Hid (flt (x.gr.m.g k) (some 0) = false) := by show flt (fm x.gr.g k) _ = _; rw [fm_of hk, ← fb0]; exact hg
        go_wp2_with fail
        go_ret
        exact ⟨a, rfl, by rw [outF_no HF.out]; exact HA.out, HB.out⟩
      · have HF : Hid (flt (x.gr.m.g k) (some 0) = true) := by show flt (fm x.gr.g k) _ = _; rw [fm_of hk, ← fb0]; exact hg
        go_wp2_with (((with_reducible refine wpList_gate ?_); refine wpList_arith _ _ rfl rfl rfl ?_; intro r n hr))
        rename_i rm nm hm
        go_ret
        exact ⟨r, rfl, by
          rw [outF_yes HF.out]
          show fb r = fadd _ (fsub (some 0) (fm x.gr.g k))
          rw [hr.out, fop, HA.out.out, hm.out, fop, fb0, fm_of hk], below_drawn HB.out _⟩

set_option maxRecDepth 100000 in
set_option maxHeartbeats 1600000 in
theorem inB_any (b k : Nat) (x : Br) (w : World) (hk : k < 64) (hs : x.gr.Sane) (hX : BAt w b x) :
    Calls Try.prog 138 #[.pointer (some ⟨b, 0, none⟩), .int .i64 k] w (RetF (inF x.n k) w) := by
  have hgt' := order_gt
  have hlt' := order_lt
  have k1 : (k : Int) < 64 := by omega
  have hr' := hs.rng
  have hW := hs.hW
  have hH := hs.hH
  go_enter Try.func138, Try.ntmps138
  go_wp2_with fail
  go_loopw [5, 9] (fun v5 v9 wr => SumK (inTo x.n k) w v5 v9 wr) (fun _ v9 _ => 4 - (intOf v9).toNat)
  case atStart => exact ⟨0, 0, by omega, rfl, rfl, fb0, Below.refl _ _⟩
  case round =>
    obtain ⟨s, a, hs4, rfl, rfl, ha, hB⟩ := hrel
    have HX := Lib.hid (hX.below hB)
    have HB := Lib.hid hB
    have HA := Lib.hid ha
    clear hB hX ha
    by_cases hlt : s < 4
    · go_wp2_with fail
      refine (flow_any b 0 k s x.gr _ hk hlt hr' hW hH HX.out.g).mono ?_
      rintro e w1 ⟨r1, rfl, hr1, hb1⟩
      have HB1 := Lib.hid (HB.out.trans (hb1.mono HB.out.size))
      have HX1 := Lib.hid (HX.out.below hb1)
      have HR1 := Lib.hid hr1
      clear hb1 hr1
      cases hf : flt (fb r1) (fb 0)
      · have HF : Hid (flt (flow x.gr.m k s) (some 0) = false) := by show _ = _; rw [← HR1.out.out, ← fb0]; exact hf
        go_wp2_with fail
        go_roundw
        case rel => exact ⟨s + 1, a, by omega, by go_num, rfl, by rw [inTo_no (n := x.n) HF.out]; exact HA.out, HB1.out⟩
        case measure => simp [intOf]; omega
      · have HF : Hid (flt (flow x.gr.m k s) (some 0) = true) := by show _ = _; rw [← HR1.out.out, ← fb0]; exact hf
        have hbl := beside_lt x.gr.wide x.gr.high k s hk hW hH
        have hb0 : 0 ≤ beside x.gr.wide x.gr.high k s := beside_of_flow HF.out
        obtain ⟨c, hn⟩ : ∃ c : Nat, beside x.gr.wide x.gr.high k s = c := ⟨(beside x.gr.wide x.gr.high k s).toNat, by omega⟩
        have hnl : c < 64 := by omega
        have n1 : (c : Int) < 64 := by omega
        have HN := Lib.hid hn
        clear hbl hb0 hn
        have q3 := fun zz => ext_cell w1 zz (HX1.out.s hnl)
        go_wp2_with fail
        refine wp_soft (SV (.int .i64 c)) (by kernel_rfl) (by kernel_rfl) ?_
        repeat (first | (refine soft_arith (fun _ n h => h.drewN n) _ _ rfl rfl rfl ?_; intro r hr) | (refine soft_step (fun K hK => ?_); go_simp; (try go_bits); refine hK _ ?_; clear hK K) | (refine soft_step (fun K hK => ?_); go_simp; refine ⟨_, _, ⟨rfl, rfl⟩, fun zz => ?_, ?_⟩; ((with_reducible refine (beside_any b 0 k s x.gr _ hk hlt hr' (HX1.out.below (ext_below _ zz)).g).mono ?_); rw [HN.out]; rintro e w2 ⟨he, hw⟩; exact ⟨_, he, rfl, hw ▸ Below.refl _ _⟩); rintro v rfl; refine hK _ ?_; clear hK K))
        rename_i ra hra rm hm
        refine soft_nil ?_
        rintro w3 hw3
        have HB3 := Lib.hid (HB1.out.trans (hw3.below.mono HB1.out.size))
        clear hw3 q3
        go_wp2_with fail
        go_roundw
        case rel => exact ⟨s + 1, r, by omega, by go_num, rfl, by
          rw [inTo_yes (n := x.n) HF.out HN.out]
          show fb r = fadd _ (fmul _ (fm x.s c))
          rw [hr.out, fop, HA.out.out, hm.out, fop, hra.out, fop, HR1.out.out, fb0, fm_of hnl]; rfl, HB3.out⟩
        case measure => simp [intOf]; omega
    · obtain rfl : s = 4 := by omega
      have q1 := HX.out.g.g hk
      simp only [Nat.zero_add] at q1
      have q2 := HX.out.p hk
      cases hg : fgt (fb (x.gr.g k)) (fb 0)
      · have HF : Hid (fgt (x.gr.m.g k) (some 0) = false) := by show fgt (fm x.gr.g k) _ = _; rw [fm_of hk, ← fb0]; exact hg
        go_wp2_with fail
        go_ret
        exact ⟨a, rfl, by rw [inF_no (n := x.n) HF.out]; exact HA.out, HB.out⟩
      · have HF : Hid (fgt (x.gr.m.g k) (some 0) = true) := by show fgt (fm x.gr.g k) _ = _; rw [fm_of hk, ← fb0]; exact hg
        go_wp2_with (((with_reducible refine wpList_gate ?_); refine wpList_arith _ _ rfl rfl rfl ?_; intro r n hr))
        rename_i rm nm hm
        go_ret
        exact ⟨r, rfl, by
          rw [inF_yes (n := x.n) HF.out]
          show fb r = fadd _ (fmul (fm x.gr.g k) (fm x.p k))
          rw [hr.out, fop, HA.out.out, hm.out, fop, fm_of hk, fm_of hk], below_drawn HB.out _⟩

set_option maxRecDepth 100000 in
set_option maxHeartbeats 1600000 in
theorem l05Out_any (b k : Nat) (x : Br) (w : World) (hk : k < 64) (hs : x.gr.Sane) (hX : BAt w b x) :
    Calls Try.prog 125 #[.pointer (some ⟨b, 0, none⟩), .int .i64 k] w (RetF (outF x.gr.m k) w) := by
  have hgt' := order_gt
  have hlt' := order_lt
  have k1 : (k : Int) < 64 := by omega
  have hr' := hs.rng
  have hW := hs.hW
  have hH := hs.hH
  go_enter Try.func125, Try.ntmps125
  go_wp2_with fail
  go_loopw [5, 6] (fun v5 v9 wr => SumK (outTo x.gr.m k) w v5 v9 wr) (fun _ v9 _ => 4 - (intOf v9).toNat)
  case atStart => exact ⟨0, 0, by omega, rfl, rfl, fb0, Below.refl _ _⟩
  case round =>
    obtain ⟨s, a, hs4, rfl, rfl, ha, hB⟩ := hrel
    have HX := Lib.hid (hX.below hB)
    have HB := Lib.hid hB
    have HA := Lib.hid ha
    clear hB hX ha
    by_cases hlt : s < 4
    · go_wp2_with fail
      refine (l01Flow_any b 0 k s x.gr _ hk hlt hr' hW hH HX.out.g).mono ?_
      rintro e w1 ⟨r1, rfl, hr1, hb1⟩
      have HB1 := Lib.hid (HB.out.trans (hb1.mono HB.out.size))
      have HX1 := Lib.hid (HX.out.below hb1)
      have HR1 := Lib.hid hr1
      clear hb1 hr1
      cases hf : fgt (fb r1) (fb 0)
      · have HF : Hid (fgt (flow x.gr.m k s) (some 0) = false) := by show _ = _; rw [← HR1.out.out, ← fb0]; exact hf
        go_wp2_with fail
        go_roundw
        case rel => exact ⟨s + 1, a, by omega, by go_num, rfl, by rw [outTo_no HF.out]; exact HA.out, HB1.out⟩
        case measure => simp [intOf]; omega
      · have HF : Hid (fgt (flow x.gr.m k s) (some 0) = true) := by show _ = _; rw [← HR1.out.out, ← fb0]; exact hf
        go_wp2_with (((with_reducible refine wpList_gate ?_); refine wpList_arith _ _ rfl rfl rfl ?_; intro r n hr))
        go_roundw
        case rel => exact ⟨s + 1, r, by omega, by go_num, rfl, by rw [outTo_yes HF.out]; exact hr.op HA.out HR1.out, below_drawn HB1.out _⟩
        case measure => simp [intOf]; omega
    · obtain rfl : s = 4 := by omega
      have q1 := HX.out.g.g hk
      simp only [Nat.zero_add] at q1
      cases hg : flt (fb (x.gr.g k)) (fb 0)
      · have HF : Hid (flt (x.gr.m.g k) (some 0) = false) := by show flt (fm x.gr.g k) _ = _; rw [fm_of hk, ← fb0]; exact hg
        go_wp2_with fail
        go_ret
        exact ⟨a, rfl, by rw [outF_no HF.out]; exact HA.out, HB.out⟩
      · have HF : Hid (flt (x.gr.m.g k) (some 0) = true) := by show flt (fm x.gr.g k) _ = _; rw [fm_of hk, ← fb0]; exact hg
        go_wp2_with (((with_reducible refine wpList_gate ?_); refine wpList_arith _ _ rfl rfl rfl ?_; intro r n hr))
        rename_i rm nm hm
        go_ret
        exact ⟨r, rfl, by
          rw [outF_yes HF.out]
          show fb r = fadd _ (fsub (some 0) (fm x.gr.g k))
          rw [hr.out, fop, HA.out.out, hm.out, fop, fb0, fm_of hk], below_drawn HB.out _⟩

set_option maxRecDepth 100000 in
set_option maxHeartbeats 1600000 in
theorem l05In_any (b k : Nat) (x : Br) (w : World) (hk : k < 64) (hs : x.gr.Sane) (hX : BAt w b x) :
    Calls Try.prog 140 #[.pointer (some ⟨b, 0, none⟩), .int .i64 k] w (RetF (inF x.n k) w) := by
  have hgt' := order_gt
  have hlt' := order_lt
  have k1 : (k : Int) < 64 := by omega
  have hr' := hs.rng
  have hW := hs.hW
  have hH := hs.hH
  go_enter Try.func140, Try.ntmps140
  go_wp2_with fail
  go_loopw [5, 6] (fun v5 v9 wr => SumK (inTo x.n k) w v5 v9 wr) (fun _ v9 _ => 4 - (intOf v9).toNat)
  case atStart => exact ⟨0, 0, by omega, rfl, rfl, fb0, Below.refl _ _⟩
  case round =>
    obtain ⟨s, a, hs4, rfl, rfl, ha, hB⟩ := hrel
    have HX := Lib.hid (hX.below hB)
    have HB := Lib.hid hB
    have HA := Lib.hid ha
    clear hB hX ha
    by_cases hlt : s < 4
    · go_wp2_with fail
      refine (l01Flow_any b 0 k s x.gr _ hk hlt hr' hW hH HX.out.g).mono ?_
      rintro e w1 ⟨r1, rfl, hr1, hb1⟩
      have HB1 := Lib.hid (HB.out.trans (hb1.mono HB.out.size))
      have HX1 := Lib.hid (HX.out.below hb1)
      have HR1 := Lib.hid hr1
      clear hb1 hr1
      cases hf : flt (fb r1) (fb 0)
      · have HF : Hid (flt (flow x.gr.m k s) (some 0) = false) := by show _ = _; rw [← HR1.out.out, ← fb0]; exact hf
        go_wp2_with fail
        go_roundw
        case rel => exact ⟨s + 1, a, by omega, by go_num, rfl, by rw [inTo_no (n := x.n) HF.out]; exact HA.out, HB1.out⟩
        case measure => simp [intOf]; omega
      · have HF : Hid (flt (flow x.gr.m k s) (some 0) = true) := by show _ = _; rw [← HR1.out.out, ← fb0]; exact hf
        have hbl := beside_lt x.gr.wide x.gr.high k s hk hW hH
        have hb0 : 0 ≤ beside x.gr.wide x.gr.high k s := beside_of_flow HF.out
        obtain ⟨c, hn⟩ : ∃ c : Nat, beside x.gr.wide x.gr.high k s = c := ⟨(beside x.gr.wide x.gr.high k s).toNat, by omega⟩
        have hnl : c < 64 := by omega
        have n1 : (c : Int) < 64 := by omega
        have HN := Lib.hid hn
        clear hbl hb0 hn
        have q3 := HX1.out.s hnl
        go_wp2_with (first | (go_at_call 159; refine (l01Beside_any b 0 k s x.gr _ hk hlt hr' HX1.out.g).mono ?_; rw [HN.out]; rintro e w' ⟨rfl, rfl⟩) | ((with_reducible refine wpList_gate ?_); refine wpList_arith _ _ rfl rfl rfl ?_; intro r n hr))
        rename_i ra na hra rm nm hm
        go_roundw
        case rel => exact ⟨s + 1, r, by omega, by go_num, rfl, by
          rw [inTo_yes (n := x.n) HF.out HN.out]
          show fb r = fadd _ (fmul _ (fm x.s c))
          rw [hr.out, fop, HA.out.out, hm.out, fop, hra.out, fop, HR1.out.out, fb0, fm_of hnl]; rfl, below_drawn HB1.out _⟩
        case measure => simp [intOf]; omega
    · obtain rfl : s = 4 := by omega
      have q1 := HX.out.g.g hk
      simp only [Nat.zero_add] at q1
      have q2 := HX.out.p hk
      cases hg : fgt (fb (x.gr.g k)) (fb 0)
      · have HF : Hid (fgt (x.gr.m.g k) (some 0) = false) := by show fgt (fm x.gr.g k) _ = _; rw [fm_of hk, ← fb0]; exact hg
        go_wp2_with fail
        go_ret
        exact ⟨a, rfl, by rw [inF_no (n := x.n) HF.out]; exact HA.out, HB.out⟩
      · have HF : Hid (fgt (x.gr.m.g k) (some 0) = true) := by show fgt (fm x.gr.g k) _ = _; rw [fm_of hk, ← fb0]; exact hg
        go_wp2_with (((with_reducible refine wpList_gate ?_); refine wpList_arith _ _ rfl rfl rfl ?_; intro r n hr))
        rename_i rm nm hm
        go_ret
        exact ⟨r, rfl, by
          rw [inF_yes (n := x.n) HF.out]
          show fb r = fadd _ (fmul (fm x.gr.g k) (fm x.p k))
          rw [hr.out, fop, HA.out.out, hm.out, fop, fm_of hk, fm_of hk], below_drawn HB.out _⟩

end Go.Proofs.Ytfcphfdfpjmgiaa
