/- The bits of all cells; fields by the reference's test. -/
import Derived.Test.YtekemhibnokhcaaDoorOk
namespace Go.Proofs.YtekemhibnokhcaaDoor
open Go.RowKit

def orBit (a : Int) (c : Nat) : Int := bits BinOp.or IntKind.u64 a (IntKind.u64.wrap (2 ^ c))
def bitsL (l : List Nat) : Int := l.foldl orBit 0
theorem bitsL_snoc (l : List Nat) (c : Nat) : bitsL (l ++ [c]) = orBit (bitsL l) c := by simp [bitsL]

/-- A whole number is handed back. -/
def RetI (k : IntKind) (x : Int) (w : World) (e : Ending) (w' : World) : Prop := e = .returned (.int k x) ∧ Below w.heap.size w w'

def BitsRel (m : M) (w1 : World) (v3 v9 : Value) (wr : World) : Prop :=
  ∃ (j : Nat) (x : Int), j ≤ (cellsM m).length ∧ v9 = .int .i64 j ∧ v3 = .int .u64 x ∧ x = bitsL ((cellsM m).take j) ∧ wr = w1

set_option maxRecDepth 100000 in
set_option maxHeartbeats 400000 in
theorem bits_any (b o : Nat) (g : G) (w : World) (hr : g.Rng) (hg : GAt w b o g) :
    Calls Tryd.prog 52 #[.pointer (some ⟨b, o, none⟩)] w (RetI .u64 (bitsL (cellsM g.m)) w) := by
  go_enter Tryd.func52, Tryd.ntmps52
  go_wp2_with fail
  refine (cells_any b o g w hr hg).mono ?_
  rintro e w1 ⟨v, rfl, hown, hb1⟩
  obtain ⟨aL, cap, rfl, hL⟩ := list_form hown
  have HL := Lib.hid hL
  have HB1 := Lib.hid hb1
  clear hL hown hb1
  go_wp2_with fail
  go_loopw [3, 9] (fun v3 v9 wr => BitsRel g.m w1 v3 v9 wr) (fun _ v9 _ => (cellsM g.m).length - (intOf v9).toNat)
  case atStart => exact ⟨0, 0, by omega, rfl, rfl, rfl, rfl⟩
  case round =>
    obtain ⟨j, x, hj, rfl, rfl, hx, rfl⟩ := hrel
    have HX := Lib.hid hx
    clear hx
    by_cases hlt : j < (cellsM g.m).length
    · obtain ⟨c, hc⟩ : ∃ c, (cellsM g.m)[j]? = some c := ⟨_, List.getElem?_eq_getElem hlt⟩
      have hc64 : c < 64 := cellsTo_lt (List.mem_of_getElem? hc)
      have hj64 : j < 64 := Nat.lt_of_lt_of_le hlt (cellsTo_length _ _ _)
      obtain ⟨gq, rfl, hq1, hq2, hq3⟩ := HL.out j c hc
      have hlt' : (j : Int) < ((cellsTo g.wide g.high 64).length : Int) := by have : j < (cellsTo g.wide g.high 64).length := hlt; omega
      have HC := Lib.hid hc
      clear hc
      go_wp2_with fail
      exact ⟨⟨j + 1, _, by omega, by go_num, rfl, by rw [take_more HC.out, bitsL_snoc, ← HX.out]; rfl, rfl⟩, by simp [intOf]; omega⟩
    · have hjn : j = (cellsM g.m).length := by omega
      have hlt' : ¬ (j : Int) < ((cellsTo g.wide g.high 64).length : Int) := by have : ¬ j < (cellsTo g.wide g.high 64).length := hlt; omega
      have HJ := Lib.hid hjn
      clear hjn
      go_wp2_with fail
      go_ret
      exact ⟨ret_int (by rw [HX.out, List.take_of_length_le (Nat.le_of_eq HJ.out.symm)]), HB1.out⟩

set_option maxRecDepth 100000 in
set_option maxHeartbeats 400000 in
theorem l01Cells_any (b o : Nat) (g : G) (w : World) (hr : g.Rng) (hg : GAt w b o g) :
    Calls Tryd.prog 42 #[.pointer (some ⟨b, o, none⟩)] w (RetI .u64 (bitsL (cellsM g.m)) w) := by
  go_enter Tryd.func42, Tryd.ntmps42
  go_wp2_with fail
  go_loop [3, 4] (fun v3 v4 => ∃ (k : Nat) (x : Int), k ≤ 64 ∧ v4 = .int .i64 k ∧ v3 = .int .u64 x ∧ Hid (x = bitsL (cellsTo g.wide g.high k))) (fun _ v4 => 64 - (intOf v4).toNat)
  case atStart => exact ⟨0, 0, by omega, rfl, rfl, rfl⟩
  case round =>
    obtain ⟨k, x, hk, rfl, rfl, HX⟩ := hrel
    by_cases hlt : k < 64
    · cases hh : hasB g.wide g.high k
      · have HH := Lib.hid hh
        clear hh
        go_wp2_with (go_at_call 43; refine (l01Is_any b o k g _ hlt hr hg).mono ?_; rw [HH.out]; rintro e w' ⟨rfl, rfl⟩)
        go_round
        case rel => exact ⟨k + 1, x, by omega, by go_num, rfl, by rw [cellsTo_no HH.out]; exact HX⟩
        case measure => simp [intOf]; omega
      · have HH := Lib.hid hh
        clear hh
        go_wp2_with (go_at_call 43; refine (l01Is_any b o k g _ hlt hr hg).mono ?_; rw [HH.out]; rintro e w' ⟨rfl, rfl⟩)
        go_round
        case rel => exact ⟨k + 1, _, by omega, by go_num, rfl, by rw [cellsTo_yes HH.out, bitsL_snoc, ← HX.out]; rfl⟩
        case measure => simp [intOf]; omega
    · go_wp2
      obtain rfl : k = 64 := by omega
      go_ret
      exact ⟨ret_int HX.out, Below.refl _ _⟩

set_option maxRecDepth 100000 in
set_option maxHeartbeats 800000 in
theorem l01Field_any (b o bf of : Nat) (g : G) (f : Nat → Nat) (w : World) (hr : g.Rng) (hg : GAt w b o g) (hf : FAt w bf of f) :
    Calls Tryd.prog 41 #[.pointer (some ⟨b, o, none⟩), .pointer (some ⟨bf, of, none⟩)] w (RetB (fieldTo g.wide g.high plain (fm f) 64) w) := by
  have hne := order_ne
  go_enter Tryd.func41, Tryd.ntmps41
  go_wp2_with fail
  go_loopw [5] (fun v10 wr => FieldRel g.wide g.high plain (fm f) w v10 wr) (fun v10 _ => 64 - (intOf v10).toNat)
  case atStart => exact ⟨0, by omega, rfl, rfl, Below.refl _ _⟩
  case round =>
    obtain ⟨k, hk, rfl, hto, hB⟩ := hrel
    have HG := Lib.hid (hg.below hB)
    have HF := Lib.hid (hf.below hB)
    have HB := Lib.hid hB
    have HT := Lib.hid hto
    clear hB hg hf hto
    by_cases hlt : k < 64
    · have hcell := HF.out k hlt
      have k1 : (k : Int) < 64 := by omega
      have hb : bf < wr.heap.size := block_lt_of_cell hcell
      cases hh : hasB g.wide g.high k
      · have HH := Lib.hid hh
        clear hh
        cases he : feq (fb (f k)) (fb 0)
        · have HE := Lib.hid he
          go_wp2_with (go_at_call 43; refine (l01Is_any b o k g _ hlt hr HG.out).mono ?_; rw [HH.out]; rintro e w' ⟨rfl, rfl⟩)
          go_ret
          refine ⟨ret_bool ?_, HB.out⟩
          rw [fieldTo_bad hlt]
          rw [HH.out, fm_of hlt, ← fb0, HE.out]; rfl
        · have HE := Lib.hid he
          go_wp2_with (go_at_call 43; refine (l01Is_any b o k g _ hlt hr HG.out).mono ?_; rw [HH.out]; rintro e w' ⟨rfl, rfl⟩)
          go_roundw
          case rel => exact ⟨k + 1, by omega, by go_num, by rw [fieldTo_more, HT.out, HH.out, fm_of hlt, ← fb0, HE.out]; rfl, HB.out⟩
          case measure => simp [intOf]; omega
      · have HH := Lib.hid hh
        clear hh
        cases he : plain (fb (f k))
        · have HE := Lib.hid he
          clear he
          go_wp2_with (first | (go_at_call 43; refine (l01Is_any b o k g _ hlt hr HG.out).mono ?_; rw [HH.out]; rintro e w' ⟨rfl, rfl⟩) | (go_at_call 63; refine (l01Plain_any (f k) _).mono ?_; rw [HE.out]; rintro e w1 ⟨rfl, hb1⟩; have HB1 := Lib.hid hb1; clear hb1))
          go_ret
          refine ⟨ret_bool ?_, HB.out.trans (HB1.out.mono HB.out.size)⟩
          rw [fieldTo_bad hlt]
          rw [HH.out, fm_of hlt, HE.out]; rfl
        · have HE := Lib.hid he
          clear he
          go_wp2_with (go_at_call 43; refine (l01Is_any b o k g _ hlt hr HG.out).mono ?_; rw [HH.out]; rintro e w' ⟨rfl, rfl⟩)
          refine (l01Plain_any (f k) _).mono ?_
          rw [HE.out]
          rintro e w1 ⟨rfl, hb1⟩
          have HB1 := Lib.hid (HB.out.trans (hb1.mono HB.out.size))
          have HG1 := Lib.hid (HG.out.below hb1)
          clear hb1
          go_wp2_with (go_at_call 43; refine (l01Is_any b o k g _ hlt hr HG1.out).mono ?_; rw [HH.out]; rintro e w' ⟨rfl, rfl⟩)
          go_roundw
          case rel => exact ⟨k + 1, by omega, by go_num, by rw [fieldTo_more, HT.out, HH.out, fm_of hlt, if_pos rfl, HE.out]; rfl, HB1.out⟩
          case measure => simp [intOf]; omega
    · go_wp2
      obtain rfl : k = 64 := by omega
      go_ret
      exact ⟨ret_bool HT.out.symm, HB.out⟩
end Go.Proofs.YtekemhibnokhcaaDoor
