/- The safe step: both sides. -/
import Derived.Test.YtfcphfdfpjmgiaaBrSmall
namespace Go.Proofs.Ytfcphfdfpjmgiaa
open Go.RowKit

def stepF (n : N) (c : Nat) : F := fdiv n.room (fmul (some 1073741824) (outF n.g c))
def safeSt (n : N) (st : F × Bool) (c : Nat) : F × Bool :=
  if fgt (outF n.g c) (some 0) then (if !st.2 || flt (stepF n c) st.1 then (stepF n c, true) else st) else st
def safeF (n : N) (l : List Nat) : F × Bool := l.foldl (safeSt n) (some 0, false)
theorem safeF_snoc (n : N) (l : List Nat) (c : Nat) : safeF n (l ++ [c]) = safeSt n (safeF n l) c := by simp [safeF]
def safeR (n : N) : F × Int :=
  if okB n then (if (safeF n (freeL n.g 64)).2 then (if plain (safeF n (freeL n.g 64)).1 then ((safeF n (freeL n.g 64)).1, 0) else (some 0, 4)) else (some 0, 6)) else (some 0, 1)
theorem safe_none {n : N} {st : F × Bool} {c : Nat} (h : fgt (outF n.g c) (some 0) = false) : safeSt n st c = st := by unfold safeSt; rw [h]; rfl
theorem safe_first {n : N} {st : F × Bool} {c : Nat} (h : fgt (outF n.g c) (some 0) = true) (h2 : st.2 = false) : safeSt n st c = (stepF n c, true) := by unfold safeSt; rw [h, h2]; rfl
theorem safe_less {n : N} {st : F × Bool} {c : Nat} (h : fgt (outF n.g c) (some 0) = true) (h3 : flt (stepF n c) st.1 = true) : safeSt n st c = (stepF n c, true) := by unfold safeSt; rw [h, h3]; simp
theorem safe_more {n : N} {st : F × Bool} {c : Nat} (h : fgt (outF n.g c) (some 0) = true) (h2 : st.2 = true) (h3 : flt (stepF n c) st.1 = false) : safeSt n st c = st := by unfold safeSt; rw [h, h2, h3]; rfl

/-- The state while the cells are gone through: the least step so far, and whether there is one. -/
def SafeRel (n : N) (f : Nat → List Nat) (most : Nat) (w : World) (va vf vj : Value) (wr : World) : Prop :=
  ∃ (j a : Nat) (fd : Bool), j ≤ most ∧ vj = .int .i64 j ∧ va = .float .f32 a ∧ vf = .bool fd ∧ Is a (safeF n (f j)).1 ∧ fd = (safeF n (f j)).2 ∧ Below w.heap.size w wr

section
variable {P : Program} {ops : Array Oper} {Q : Exit → Act → World → Prop} {rest : List Oper} {a : Act} {w : World} {dst : Option Tmp} {t t2 ty : TypeId} {X Y : Operand} {pos : String} {after : Array Edge}
theorem gate_of {p : Prop} (h : Gate p) : p := h
theorem wpList_gateM (h : Gate (wpList P ops Q (⟨dst, .binOp .mul t X Y t2, ty, pos, after, none⟩ :: rest) a w)) : wpList P ops Q (⟨dst, .binOp .mul t X Y t2, ty, pos, after, none⟩ :: rest) a w := h
theorem wpList_gateQ (h : Gate (wpList P ops Q (⟨dst, .binOp .quo t X Y t2, ty, pos, after, none⟩ :: rest) a w)) : wpList P ops Q (⟨dst, .binOp .quo t X Y t2, ty, pos, after, none⟩ :: rest) a w := h
end

set_option maxRecDepth 100000 in
set_option maxHeartbeats 3200000 in
theorem SafeStep_any (x : Br) (w : World) (hr : x.gr.Rng) (hx : x.gr.Fx) :
    Calls Try.prog 31 #[.agg (arrB x)] w (RetFI (safeR x.n).1 (safeR x.n).2 w) := by
  have hgt' := order_gt
  have hlt' := order_lt
  cases hok : okB x.n
  · have HW : Hid (safeR x.n = (some 0, 1)) := by show _ = _; unfold safeR; rw [hok]; rfl
    have HOK := Lib.hid hok
    clear hok
    go_enter Try.func31, Try.ntmps31
    go_wp2_with (with_reducible refine wpList_box rfl ?_)
    intro b w1 hB1 hB2 hB3 hB4
    go_wp2_with ((with_reducible refine wpList_getB hB3 ?_ ?_); rfl)
    refine (ValidBrine_any x w1 hr hx).mono ?_
    rw [HOK.out]
    rintro e w3 ⟨rfl, hb3⟩
    have HB := Lib.hid (hB4.trans (hb3.mono hB4.size))
    clear hB3 hB4 hb3
    go_wp2_with fail
    go_ret2
    exact ⟨0, by rw [HW.out]; rfl, by rw [HW.out]; exact fb0, HB.out⟩
  · have hs := sane_of (okB_g hok) hx
    have HW : Hid (safeR x.n = (if (safeF x.n (freeL x.gr.m 64)).2 then (if plain (safeF x.n (freeL x.gr.m 64)).1 then ((safeF x.n (freeL x.gr.m 64)).1, 0) else (some 0, 4)) else (some 0, 6))) := by show _ = _; unfold safeR; rw [hok]; rfl
    have HOK := Lib.hid hok
    clear hok
    go_enter Try.func31, Try.ntmps31
    go_wp2_with (with_reducible refine wpList_box rfl ?_)
    intro b w1 hB1 hB2 hB3 hB4
    go_wp2_with ((with_reducible refine wpList_getB hB3 ?_ ?_); rfl)
    refine (ValidBrine_any x w1 hr hx).mono ?_
    rw [HOK.out]
    rintro e w3 ⟨rfl, hb3⟩
    have HX3 := Lib.hid ((BAt.of_blk hB3).below hb3)
    have HB := Lib.hid (hB4.trans (hb3.mono hB4.size))
    clear hB3 hB4 hb3
    go_wp2_with fail
    refine (free_any b 0 x.gr w3 hs HX3.out.g).mono ?_
    rintro e w2 ⟨v, rfl, hown, hb2⟩
    obtain ⟨aL, cap, rfl, hL⟩ := list_form hown
    have HL := Lib.hid hL
    have HX2 := Lib.hid (HX3.out.below hb2)
    have HB_ := Lib.hid (HB.out.trans (hb2.mono HB.out.size))
    have hlen := freeL_length x.gr.m 64
    clear hL hown hb2 HX3 HB
    go_wp2_with fail
    go_loopw [4, 5, 16] (fun va vf vj wr => SafeRel x.n (fun j => (freeL x.gr.m 64).take j) (freeL x.gr.m 64).length w2 va vf vj wr) (fun _ _ vj _ => (freeL x.gr.m 64).length - (intOf vj).toNat)
    case atStart => exact ⟨0, 0, false, by omega, rfl, rfl, rfl, fb0, rfl, Below.refl _ _⟩
    case round =>
      obtain ⟨j, a, fd, hj, rfl, rfl, rfl, ha, hfd, hB⟩ := hrel
      have HBr := Lib.hid hB
      have HX := Lib.hid (HX2.out.below hB)
      have HA := Lib.hid ha
      have HFD := Lib.hid hfd
      clear hB ha hfd
      by_cases hlt : j < (freeL x.gr.m 64).length
      · obtain ⟨c, hc⟩ : ∃ c, (freeL x.gr.m 64)[j]? = some c := ⟨_, List.getElem?_eq_getElem hlt⟩
        have hc64 : c < 64 := freeL_lt (List.mem_of_getElem? hc)
        have hj64 : j < 64 := by omega
        obtain ⟨gq, rfl, hq1, hq2, hq3⟩ := HL.out j c hc
        have hcell := cell_below HBr.out hq3
        have HC := Lib.hid hc
        have j1 : (j : Int) < ((freeL x.gr.m 64).length : Int) := by omega
        clear hq3 hc
        go_wp2_with fail
        refine (outB_any b c x wr hc64 hs HX.out).mono ?_
        rintro e w3 ⟨r3, rfl, hr3, hb3⟩
        have HB3 := Lib.hid (HBr.out.trans (hb3.mono HBr.out.size))
        have HX3 := Lib.hid (HX.out.below hb3)
        have HR := Lib.hid hr3
        have q1 := HX3.out.room
        clear hb3 hr3
        cases hg : fgt (fb r3) (fb 0)
        · have HG : Hid (fgt (outF x.n.g c) (some 0) = false) := by show fgt (outF x.gr.m c) _ = _; rw [← HR.out.out, ← fb0]; exact hg
          go_wp2_with fail
          go_roundw
          case rel => exact ⟨j + 1, a, fd, by omega, by go_num, rfl, rfl, by dsimp only; rw [take_more HC.out, safeF_snoc, safe_none HG.out]; exact HA.out, by dsimp only; rw [take_more HC.out, safeF_snoc, safe_none HG.out]; exact HFD.out, HB3.out⟩
          case measure => simp [intOf]; omega
        · have HG : Hid (fgt (outF x.n.g c) (some 0) = true) := by show fgt (outF x.gr.m c) _ = _; rw [← HR.out.out, ← fb0]; exact hg
          go_wp2_with (first | ((with_reducible refine wpList_gateM ?_); refine wpList_arith _ _ rfl rfl rfl ?_; intro rm nm hm) | ((with_reducible refine wpList_gateQ ?_); refine wpList_arith _ _ rfl rfl rfl ?_; intro rs ns hs9; apply gate_of))
          unfold Gate
          have HS : Hid (Is rs (stepF x.n c)) := by
            show fb rs = fdiv (fb x.room) (fmul (some 1073741824) (outF x.gr.m c))
            rw [hs9.out, fop, hm.out, fop, HR.out.out, fb2]
          clear hs9 hm q1
          cases fd
          · go_wp2_with fail
            go_roundw
            case rel => exact ⟨j + 1, rs, true, by omega, by go_num, rfl, rfl, by dsimp only; rw [take_more HC.out, safeF_snoc, safe_first HG.out HFD.out.symm]; exact HS.out, by dsimp only; rw [take_more HC.out, safeF_snoc, safe_first HG.out HFD.out.symm], below_drawn HB3.out _⟩
            case measure => simp [intOf]; omega
          · cases h3 : flt (fb rs) (fb a)
            · have HL3 : Hid (flt (stepF x.n c) (safeF x.n ((freeL x.gr.m 64).take j)).1 = false) := by show _ = _; rw [← HS.out.out, ← HA.out.out]; exact h3
              go_wp2_with fail
              go_roundw
              case rel => exact ⟨j + 1, a, true, by omega, by go_num, rfl, rfl, by dsimp only; rw [take_more HC.out, safeF_snoc, safe_more HG.out HFD.out.symm HL3.out]; exact HA.out, by dsimp only; rw [take_more HC.out, safeF_snoc, safe_more HG.out HFD.out.symm HL3.out]; exact HFD.out, below_drawn HB3.out _⟩
              case measure => simp [intOf]; omega
            · have HL3 : Hid (flt (stepF x.n c) (safeF x.n ((freeL x.gr.m 64).take j)).1 = true) := by show _ = _; rw [← HS.out.out, ← HA.out.out]; exact h3
              go_wp2_with fail
              go_roundw
              case rel => exact ⟨j + 1, rs, true, by omega, by go_num, rfl, rfl, by dsimp only; rw [take_more HC.out, safeF_snoc, safe_less HG.out HL3.out]; exact HS.out, by dsimp only; rw [take_more HC.out, safeF_snoc, safe_less HG.out HL3.out], below_drawn HB3.out _⟩
              case measure => simp [intOf]; omega
      · have hjn : j = (freeL x.gr.m 64).length := by omega
        have j1 : ¬ (j : Int) < ((freeL x.gr.m 64).length : Int) := by omega
        have e1 : (freeL x.gr.m 64).take j = freeL x.gr.m 64 := List.take_of_length_le (Nat.le_of_eq hjn.symm)
        simp only [e1] at HA HFD
        have HBe := Lib.hid (HB_.out.trans (HBr.out.mono HB_.out.size))
        clear hjn e1
        cases fd
        · have HWW : Hid (safeR x.n = (some 0, 6)) := by show _ = _; rw [HW.out, ← HFD.out]; rfl
          go_wp2_with fail
          go_ret2
          exact ⟨0, by rw [HWW.out]; rfl, by rw [HWW.out]; exact fb0, HBe.out⟩
        · cases hp : plain (fb a)
          · have HP := Lib.hid hp
            have HWW : Hid (safeR x.n = (some 0, 4)) := by show _ = _; rw [HW.out, ← HFD.out, ← HA.out.out, hp]; rfl
            clear hp
            go_wp2_with fail
            refine (IsPlain_any a wr).mono ?_
            rw [HP.out]
            rintro e w4 ⟨rfl, hb4⟩
            have HB4 := Lib.hid (HBe.out.trans (hb4.mono HBe.out.size))
            clear hb4
            go_wp2_with fail
            go_ret2
            exact ⟨0, by rw [HWW.out]; rfl, by rw [HWW.out]; exact fb0, HB4.out⟩
          · have HP := Lib.hid hp
            have HWW : Hid (safeR x.n = (fb a, 0)) := by show _ = _; rw [HW.out, ← HFD.out, ← HA.out.out, hp]; rfl
            clear hp
            go_wp2_with fail
            refine (IsPlain_any a wr).mono ?_
            rw [HP.out]
            rintro e w4 ⟨rfl, hb4⟩
            have HB4 := Lib.hid (HBe.out.trans (hb4.mono HBe.out.size))
            clear hb4
            go_wp2_with fail
            go_ret2
            exact ⟨a, by rw [HWW.out]; rfl, by rw [HWW.out]; exact rfl, HB4.out⟩

set_option maxRecDepth 100000 in
set_option maxHeartbeats 3200000 in
theorem specSafeStep_any (x : Br) (w : World) (hr : x.gr.Rng) (hx : x.gr.Fx) :
    Calls Try.prog 32 #[.agg (arrB x)] w (RetFI (safeR x.n).1 (safeR x.n).2 w) := by
  have hgt' := order_gt
  have hlt' := order_lt
  cases hok : okB x.n
  · have HW : Hid (safeR x.n = (some 0, 1)) := by show _ = _; unfold safeR; rw [hok]; rfl
    have HOK := Lib.hid hok
    clear hok
    go_enter Try.func32, Try.ntmps32
    go_wp2_with (with_reducible refine wpList_box rfl ?_)
    intro b w1 hB1 hB2 hB3 hB4
    go_wp2_with fail
    refine (l05Ok_any b x w1 hr hx (BAt.of_blk hB3)).mono ?_
    rw [HOK.out]
    rintro e w3 ⟨rfl, hb3⟩
    have HB := Lib.hid (hB4.trans (hb3.mono hB4.size))
    clear hB3 hB4 hb3
    go_wp2_with fail
    go_ret2
    exact ⟨0, by rw [HW.out]; rfl, by rw [HW.out]; exact fb0, HB.out⟩
  · have hs := sane_of (okB_g hok) hx
    have HW : Hid (safeR x.n = (if (safeF x.n (freeL x.gr.m 64)).2 then (if plain (safeF x.n (freeL x.gr.m 64)).1 then ((safeF x.n (freeL x.gr.m 64)).1, 0) else (some 0, 4)) else (some 0, 6))) := by show _ = _; unfold safeR; rw [hok]; rfl
    have HOK := Lib.hid hok
    clear hok
    go_enter Try.func32, Try.ntmps32
    go_wp2_with (with_reducible refine wpList_box rfl ?_)
    intro b w1 hB1 hB2 hB3 hB4
    go_wp2_with fail
    refine (l05Ok_any b x w1 hr hx (BAt.of_blk hB3)).mono ?_
    rw [HOK.out]
    rintro e w3 ⟨rfl, hb3⟩
    have HX3 := Lib.hid ((BAt.of_blk hB3).below hb3)
    have HB := Lib.hid (hB4.trans (hb3.mono hB4.size))
    clear hB3 hB4 hb3
    go_wp2_with fail
    have HB_ := HB
    have HX2 := HX3
    clear HB HX3
    go_loopw [5, 4, 6] (fun va vf vj wr => SafeRel x.n (fun j => freeL x.n.g j) 64 w3 va vf vj wr) (fun _ _ vj _ => 64 - (intOf vj).toNat)
    case atStart => exact ⟨0, 0, false, by omega, rfl, rfl, rfl, fb0, rfl, Below.refl _ _⟩
    case round =>
      obtain ⟨k, a, fd, hk, rfl, rfl, rfl, ha, hfd, hB⟩ := hrel
      have HBr := Lib.hid hB
      have HX := Lib.hid (HX2.out.below hB)
      have HA := Lib.hid ha
      have HFD := Lib.hid hfd
      clear hB ha hfd
      by_cases hlt : k < 64
      · cases hh : hasB x.gr.wide x.gr.high k
        · have HH := Lib.hid hh
          have HF : Hid (fixB x.gr.fixed k = fixB x.gr.fixed k) := rfl
          clear hh
          go_wp2_with (go_at_call 124; refine (l05Free_any b k x _ hlt hs HX.out).mono ?_; rw [HH.out, HF.out]; rintro e w' ⟨rfl, rfl⟩)
          go_roundw
          case rel => exact ⟨k + 1, a, fd, by omega, by go_num, rfl, rfl, by dsimp only; rw [freeL_no (m := x.n.g) HH.out]; exact HA.out, by dsimp only; rw [freeL_no (m := x.n.g) HH.out]; exact HFD.out, HBr.out⟩
          case measure => simp [intOf]; omega
        · have HH := Lib.hid hh
          clear hh
          cases hf : fixB x.gr.fixed k
          rotate_left
          · have HF := Lib.hid hf
            clear hf
            go_wp2_with (go_at_call 124; refine (l05Free_any b k x _ hlt hs HX.out).mono ?_; rw [HH.out, HF.out]; rintro e w' ⟨rfl, rfl⟩)
            go_roundw
            case rel => exact ⟨k + 1, a, fd, by omega, by go_num, rfl, rfl, by dsimp only; rw [freeL_fix (m := x.n.g) HH.out HF.out]; exact HA.out, by dsimp only; rw [freeL_fix (m := x.n.g) HH.out HF.out]; exact HFD.out, HBr.out⟩
            case measure => simp [intOf]; omega
          · have HF := Lib.hid hf
            clear hf
            go_wp2_with (go_at_call 124; refine (l05Free_any b k x _ hlt hs HX.out).mono ?_; rw [HH.out, HF.out]; rintro e w' ⟨rfl, rfl⟩)
            refine (l05Out_any b k x wr hlt hs HX.out).mono ?_
            rintro e w3 ⟨r3, rfl, hr3, hb3⟩
            have HB3 := Lib.hid (HBr.out.trans (hb3.mono HBr.out.size))
            have HX3 := Lib.hid (HX.out.below hb3)
            have HR := Lib.hid hr3
            have q1 := HX3.out.room
            clear hb3 hr3
            cases hg : fgt (fb r3) (fb 0)
            · have HG : Hid (fgt (outF x.n.g k) (some 0) = false) := by show fgt (outF x.gr.m k) _ = _; rw [← HR.out.out, ← fb0]; exact hg
              go_wp2_with fail
              go_roundw
              case rel => exact ⟨k + 1, a, fd, by omega, by go_num, rfl, rfl, by dsimp only; rw [freeL_yes (m := x.n.g) HH.out HF.out, safeF_snoc, safe_none HG.out]; exact HA.out, by dsimp only; rw [freeL_yes (m := x.n.g) HH.out HF.out, safeF_snoc, safe_none HG.out]; exact HFD.out, HB3.out⟩
              case measure => simp [intOf]; omega
            · have HG : Hid (fgt (outF x.n.g k) (some 0) = true) := by show fgt (outF x.gr.m k) _ = _; rw [← HR.out.out, ← fb0]; exact hg
              go_wp2_with (first | ((with_reducible refine wpList_gateM ?_); refine wpList_arith _ _ rfl rfl rfl ?_; intro rm nm hm) | ((with_reducible refine wpList_gateQ ?_); refine wpList_arith _ _ rfl rfl rfl ?_; intro rs ns hs9; apply gate_of))
              unfold Gate
              have HS : Hid (Is rs (stepF x.n k)) := by
                show fb rs = fdiv (fb x.room) (fmul (some 1073741824) (outF x.gr.m k))
                rw [hs9.out, fop, hm.out, fop, HR.out.out, fb2]
              clear hs9 hm q1
              cases fd
              · go_wp2_with fail
                go_roundw
                case rel => exact ⟨k + 1, rs, true, by omega, by go_num, rfl, rfl, by dsimp only; rw [freeL_yes (m := x.n.g) HH.out HF.out, safeF_snoc, safe_first HG.out HFD.out.symm]; exact HS.out, by dsimp only; rw [freeL_yes (m := x.n.g) HH.out HF.out, safeF_snoc, safe_first HG.out HFD.out.symm], below_drawn HB3.out _⟩
                case measure => simp [intOf]; omega
              · cases h3 : flt (fb rs) (fb a)
                · have HL3 : Hid (flt (stepF x.n k) (safeF x.n (freeL x.n.g k)).1 = false) := by show _ = _; rw [← HS.out.out, ← HA.out.out]; exact h3
                  go_wp2_with fail
                  go_roundw
                  case rel => exact ⟨k + 1, a, true, by omega, by go_num, rfl, rfl, by dsimp only; rw [freeL_yes (m := x.n.g) HH.out HF.out, safeF_snoc, safe_more HG.out HFD.out.symm HL3.out]; exact HA.out, by dsimp only; rw [freeL_yes (m := x.n.g) HH.out HF.out, safeF_snoc, safe_more HG.out HFD.out.symm HL3.out]; exact HFD.out, below_drawn HB3.out _⟩
                  case measure => simp [intOf]; omega
                · have HL3 : Hid (flt (stepF x.n k) (safeF x.n (freeL x.n.g k)).1 = true) := by show _ = _; rw [← HS.out.out, ← HA.out.out]; exact h3
                  go_wp2_with fail
                  go_roundw
                  case rel => exact ⟨k + 1, rs, true, by omega, by go_num, rfl, rfl, by dsimp only; rw [freeL_yes (m := x.n.g) HH.out HF.out, safeF_snoc, safe_less HG.out HL3.out]; exact HS.out, by dsimp only; rw [freeL_yes (m := x.n.g) HH.out HF.out, safeF_snoc, safe_less HG.out HL3.out], below_drawn HB3.out _⟩
                  case measure => simp [intOf]; omega
      · obtain rfl : k = 64 := by omega
        have HBe := Lib.hid (HB_.out.trans (HBr.out.mono HB_.out.size))
        change Hid (fd = (safeF x.n (freeL x.gr.m 64)).2) at HFD
        change Hid (Is a (safeF x.n (freeL x.gr.m 64)).1) at HA
        cases fd
        · have HWW : Hid (safeR x.n = (some 0, 6)) := by show _ = _; rw [HW.out, ← HFD.out]; rfl
          go_wp2_with fail
          go_ret2
          exact ⟨0, by rw [HWW.out]; rfl, by rw [HWW.out]; exact fb0, HBe.out⟩
        · cases hp : plain (fb a)
          · have HP := Lib.hid hp
            have HWW : Hid (safeR x.n = (some 0, 4)) := by show _ = _; rw [HW.out, ← HFD.out, ← HA.out.out, hp]; rfl
            clear hp
            go_wp2_with fail
            refine (l01Plain_any a wr).mono ?_
            rw [HP.out]
            rintro e w4 ⟨rfl, hb4⟩
            have HB4 := Lib.hid (HBe.out.trans (hb4.mono HBe.out.size))
            clear hb4
            go_wp2_with fail
            go_ret2
            exact ⟨0, by rw [HWW.out]; rfl, by rw [HWW.out]; exact fb0, HB4.out⟩
          · have HP := Lib.hid hp
            have HWW : Hid (safeR x.n = (fb a, 0)) := by show _ = _; rw [HW.out, ← HFD.out, ← HA.out.out, hp]; rfl
            clear hp
            go_wp2_with fail
            refine (l01Plain_any a wr).mono ?_
            rw [HP.out]
            rintro e w4 ⟨rfl, hb4⟩
            have HB4 := Lib.hid (HBe.out.trans (hb4.mono HBe.out.size))
            clear hb4
            go_wp2_with fail
            go_ret2
            exact ⟨a, by rw [HWW.out]; rfl, by rw [HWW.out]; exact rfl, HB4.out⟩

end Go.Proofs.Ytfcphfdfpjmgiaa
