/- The size of a number: the walks. -/
import Derived.Test.YtonmdkhfongmhaaSize
namespace Go.Proofs.Ytonmdkhfongmhaa
open Go.RowKit

theorem clear_sign (d : Nat) : (bits BinOp.andNot IntKind.u64 (d : Int) 9223372036854775808).toNat = d % 9223372036854775808 := by
  have h1 : (~~~(BitVec.ofInt 64 9223372036854775808)).toNat = 2 ^ 63 - 1 := by decide
  have h2 : (BitVec.ofInt 64 (d : Int)).toNat = d % 2 ^ 64 := by rw [BitVec.toNat_ofInt]; omega
  have h3 : (BitVec.ofInt 64 (d : Int) &&& ~~~(BitVec.ofInt 64 9223372036854775808)).toNat = d % 9223372036854775808 := by
    rw [BitVec.toNat_and, h1, h2, Nat.and_two_pow_sub_one_eq_mod]
    omega
  show (IntKind.u64.wrap (BitVec.ofInt 64 (d : Int) &&& ~~~(BitVec.ofInt 64 9223372036854775808)).toNat).toNat = _
  rw [h3]
  simp [IntKind.wrap, IntKind.bits, IntKind.signed]
  omega

theorem run_f64bits (d : Nat) (w : World) : (callFunc 141 #[.float .f64 d]).run Try.prog w = .ok (.value (.int .u64 d)) w := by
  rw [run_callFunc_extern (e := Extern.MathFloatBits.float64bits) Try.func141 (by kernel_rfl) (by kernel_rfl) (by kernel_rfl) (by kernel_rfl)]
  rfl
theorem run_f64frombits (n : Int) (w : World) : (callFunc 140 #[.int .u64 n]).run Try.prog w = .ok (.value (.float .f64 n.toNat)) w := by
  rw [run_callFunc_extern (e := Extern.MathFloatBits.float64frombits) Try.func140 (by kernel_rfl) (by kernel_rfl) (by kernel_rfl) (by kernel_rfl)]
  rfl

set_option maxRecDepth 100000 in
set_option maxHeartbeats 400000 in
theorem Abs_any (d : Nat) (w : World) :
    Calls Try.prog 116 #[.float .f64 d] w fun e w' => e = .returned (.float .f64 (d % 9223372036854775808)) ∧ w = w' := by
  have h1 := run_f64bits
  have h2 := run_f64frombits
  go_enter Try.func116, Try.ntmps116
  go_wp2_with fail
  go_ret
  refine ⟨?_, rfl⟩
  rw [← clear_sign d]; rfl

theorem wpList_wide {P : Program} {ops : Array Oper} {Q : Exit → Act → World → Prop} {rest : List Oper} {a : Act} {w : World} {dst : Option Tmp} {src tgt ty : TypeId} {X : Operand} {pos : String} {after : Array Edge}
    (hs : (P.underlying src).isSome = true) (hd : P.underlying tgt = some (.float .f64)) (x : Nat) (hx : a.eval X = .float .f32 x)
    (h : ∀ d n, IsD d (wid (fb x)) → wpList P ops Q rest (a.put dst (.float .f64 d)) (w.drewN n)) : wpList P ops Q (⟨dst, .convert src tgt X, ty, pos, after, none⟩ :: rest) a w := by
  obtain ⟨d, n, h1, h2⟩ := run_wide (P := P) w (src := src) (dst := tgt) (b := x) hs hd
  exact wpList_ran rfl (v := .float .f64 d) (w' := w.drewN n) (by simp [execOp, hx, h1]) (h d n h2)

theorem cut_nanConv32 (b t : Nat) : fb ((Question.nanConv .f32 b).cut t) = none := by
  have h1 : t % 2 < 2 := Nat.mod_lt _ (by decide)
  have h2 : t / 2 % (2 ^ 23 - 1) < 2 ^ 23 - 1 := Nat.mod_lt _ (by decide)
  have e : (Question.nanConv .f32 b).cut t = (t % 2) * 2 ^ 31 + 0x7f800000 + 1 + (t / 2) % (2 ^ 23 - 1) := rfl
  rw [e]
  generalize t % 2 = a at *
  generalize t / 2 % (2 ^ 23 - 1) = c at *
  have hm : (a * 2 ^ 31 + 0x7f800000 + 1 + c) % Ieee.single.signWeight = 0x7f800000 + 1 + c := by
    show (a * 2 ^ 31 + 0x7f800000 + 1 + c) % 2147483648 = _
    omega
  have hb : Ieee.single.binade = 8388608 := rfl
  have hi : Ieee.single.infRung = 2139095040 := rfl
  have hn : (Ieee.single.read (a * 2 ^ 31 + 0x7f800000 + 1 + c)).isNaN = true := by
    unfold Ieee.Format.read
    simp only [hb, hi]
    rw [hm, if_neg (by omega), if_neg (by omega), if_neg (by omega)]
    rfl
  unfold fb fbOf
  rw [hn]
  rfl

theorem wpList_narrow_nan {P : Program} {ops : Array Oper} {Q : Exit → Act → World → Prop} {rest : List Oper} {a : Act} {w : World} {dst : Option Tmp} {src tgt ty : TypeId} {X : Operand} {pos : String} {after : Array Edge}
    (hs : (P.underlying src).isSome = true) (hd : P.underlying tgt = some (.float .f32)) (x : Nat) (hx : a.eval X = .float .f64 x) (hn : IsD x none)
    (h : ∀ r n, Is r none → wpList P ops Q rest (a.put dst (.float .f32 r)) (w.drewN n)) : wpList P ops Q (⟨dst, .convert src tgt X, ty, pos, after, none⟩ :: rest) a w := by
  obtain ⟨u, hu⟩ := Option.isSome_iff_exists.1 hs
  have hnan : (Ieee.double.read x).isNaN = true := by
    have := hn.out
    unfold db fbOf at this
    split at this
    · assumption
    · cases this
  obtain ⟨s, t, he⟩ := read_nan hnan
  have hde : FloatKind.f64.decode x = .nan s t := he
  refine wpList_ran rfl (v := .float .f32 ((Question.nanConv .f32 x).cut (w.tape w.drawn (.nanConv .f32 x)))) (w' := w.drewN 1) ?_ (h _ 1 (cut_nanConv32 _ _))
  have : (convert src tgt (.float .f64 x)).run P w = .ok (.float .f32 ((Question.nanConv .f32 x).cut (w.tape w.drawn (.nanConv .f32 x)))) (w.drewN 1) := by
    cases u <;> simp [convert, run_underlying hu, run_underlying hd, Conv.floatToFloat, hde, choose, Sem.run, Question.forced, World.drewN]
  simp [execOp, hx, this]

theorem wpList_narrow {P : Program} {ops : Array Oper} {Q : Exit → Act → World → Prop} {rest : List Oper} {a : Act} {w : World} {dst : Option Tmp} {src tgt ty : TypeId} {X : Operand} {pos : String} {after : Array Edge}
    (hs : (P.underlying src).isSome = true) (hd : P.underlying tgt = some (.float .f32)) (x r : Nat) (hx : a.eval X = .float .f64 x) (hn : floatToFloatBits .f64 x .f32 = some r)
    (h : wpList P ops Q rest (a.put dst (.float .f32 r)) w) : wpList P ops Q (⟨dst, .convert src tgt X, ty, pos, after, none⟩ :: rest) a w :=
  wpList_ran rfl (v := .float .f32 r) (w' := w) (by simp [execOp, hx, run_convert_float_float w src tgt .f64 .f32 x r hs hd hn]) h

theorem wide_read (s : Bool) (m : Nat) (e : Int) (h0 : m ≠ 0) (hm : m < 16777216) (h1 : -149 ≤ e) (h2 : e ≤ 104) :
    Ieee.double.read (Ieee.double.write (.number s m e) % 9223372036854775808) = .number false (m <<< (52 - m.log2)) (e - ((52 - m.log2 : Nat) : Int)) := by
  show Ieee.double.read (Ieee.double.nearest s m e % 9223372036854775808) = _
  have hf : Ieee.double.fractionBits = 52 := rfl
  have hl : Ieee.double.leastPlace = -1074 := rfl
  have hb : Ieee.double.binade = 4503599627370496 := rfl
  have hi : Ieee.double.infRung = 9218868437227405312 := rfl
  have hs : Ieee.double.signWeight = 9223372036854775808 := rfl
  have hlog : m.log2 ≤ 23 := by
    have := (Nat.log2_lt h0 (k := 24)).2 (by omega)
    omega
  have hlt : m < 2 ^ (m.log2 + 1) := Nat.lt_log2_self
  have hge : 2 ^ m.log2 ≤ m := Nat.log2_self_le h0
  have hk : m <<< (52 - m.log2) < 9007199254740992 := by
    rw [Nat.shiftLeft_eq]
    calc m * 2 ^ (52 - m.log2) < 2 ^ (m.log2 + 1) * 2 ^ (52 - m.log2) := Nat.mul_lt_mul_of_pos_right hlt (Nat.two_pow_pos _)
      _ = 2 ^ 53 := by rw [← Nat.pow_add]; congr 1; omega
  have hk2 : 4503599627370496 ≤ m <<< (52 - m.log2) := by
    rw [Nat.shiftLeft_eq]
    calc 4503599627370496 = 2 ^ m.log2 * 2 ^ (52 - m.log2) := by rw [← Nat.pow_add, show m.log2 + (52 - m.log2) = 52 by omega]
      _ ≤ m * 2 ^ (52 - m.log2) := Nat.mul_le_mul_right _ hge
  have hnear : Ieee.double.nearest s m e = Ieee.double.word s ((e + m.log2 + 1022).toNat * 4503599627370496 + m <<< (52 - m.log2)) := by
    unfold Ieee.Format.nearest
    rw [if_neg h0]
    simp only [hf, hl, hb, hi]
    have e1 : max (e + (m.log2 : Int) - ((52 : Nat) : Int)) (-1074) = e + (m.log2 : Int) - 52 := by omega
    rw [e1]
    have e2 : (e - (e + (m.log2 : Int) - 52)).toNat = 52 - m.log2 := by omega
    have e3 : (e + (m.log2 : Int) - 52 - e).toNat = 0 := by omega
    have e4 : (e + (m.log2 : Int) - 52 - -1074).toNat = (e + m.log2 + 1022).toNat := by congr 1; omega
    rw [e2, e3, e4, cut_zero, Nat.min_eq_left (by omega)]
  rw [hnear]
  generalize hK : m <<< (52 - m.log2) = K at *
  have hT : (e + m.log2 + 1022).toNat ≤ 1149 := by omega
  have hT2 : (((e + m.log2 + 1022).toNat : Nat) : Int) = e + m.log2 + 1022 := by omega
  generalize (e + m.log2 + 1022).toNat = T at *
  have hw : Ieee.double.word s (T * 4503599627370496 + K) % 9223372036854775808 = T * 4503599627370496 + K := by
    unfold Ieee.Format.word
    split
    · rw [hs, Nat.add_mod_left]; exact Nat.mod_eq_of_lt (by omega)
    · exact Nat.mod_eq_of_lt (by omega)
  rw [hw]
  unfold Ieee.Format.read
  simp only [hb, hi, hl, hs]
  rw [Nat.mod_eq_of_lt (by omega : T * 4503599627370496 + K < 9223372036854775808), if_neg (by omega), if_pos (by omega)]
  have q1 : ((T * 4503599627370496 + K) / 9223372036854775808 % 2 == 1) = false := by
    rw [Nat.div_eq_of_lt (by omega)]; rfl
  have q2 : 4503599627370496 + (T * 4503599627370496 + K) % 4503599627370496 = K := by omega
  have q3 : (-1074 : Int) + (((T * 4503599627370496 + K) / 4503599627370496 - 1 : Nat) : Int) = e - ((52 - m.log2 : Nat) : Int) := by omega
  rw [q1, q2, q3]

theorem wide_size (b : Nat) (h : (Ieee.single.read b).isNaN = false) :
    floatToFloatBits .f64 (Ieee.double.write (Ieee.single.read b) % 9223372036854775808) .f32 = some (b % 2147483648) ∧ b % 2147483648 ≤ 2139095040 := by
  have hi : Ieee.single.infRung = 2139095040 := rfl
  have hs : Ieee.single.signWeight = 2147483648 := rfl
  have hbi : Ieee.single.binade = 8388608 := rfl
  rcases Nat.lt_or_ge (b % 2147483648) 2139095040 with h' | h'
  · refine ⟨?_, by omega⟩
    obtain ⟨m, e, hd, hr, he, hm⟩ := read_rung b h'
    have hfin : ∀ r, r < 2139095040 → (FloatKind.f32.decode r).isInfinity = false := fun r hr => by
      show (Ieee.single.read r).isInfinity = false
      unfold Ieee.Format.read
      simp only [hs, hbi, hi]
      rw [Nat.mod_eq_of_lt (by omega : r < 2147483648)]
      split
      · rfl
      · rfl
    rw [hd]
    unfold floatToFloatBits
    rw [if_neg (by simp)]
    by_cases h0 : m = 0
    · subst h0
      have e1 : FloatKind.f64.decode (Ieee.double.write (.number (b / 2147483648 % 2 == 1) 0 e) % 9223372036854775808) = .number false 0 (-1074) := by
        show Ieee.double.read (Ieee.double.nearest _ 0 e % 9223372036854775808) = _
        unfold Ieee.Format.nearest
        rw [if_pos rfl]
        cases (b / 2147483648 % 2 == 1) <;> decide
      rw [e1]
      have e2 : FloatKind.f32.encode (.number false 0 (-1074)) = 0 := by decide
      simp only [e2]
      rw [hfin 0 (by omega)]
      simp only [Bool.false_eq_true, if_false, Option.some.injEq]
      omega
    · have e1 : FloatKind.f64.decode (Ieee.double.write (.number (b / 2147483648 % 2 == 1) m e) % 9223372036854775808) = _ := wide_read _ m e h0 (by omega) he (by omega)
      rw [e1]
      have e2 : FloatKind.f32.encode (.number false (m <<< (52 - m.log2)) (e - ((52 - m.log2 : Nat) : Int))) = b % 2147483648 := nearest_same false m (52 - m.log2) _ e hr h' he hm
      simp only [e2]
      rw [hfin _ h']
      rfl
  · have hd : (Ieee.single.read b) = .infinity (b / 2147483648 % 2 == 1) ∧ b % 2147483648 = 2139095040 := by
      have h2 := h
      unfold Ieee.Format.read at h2 ⊢
      simp only [hs, hi, hbi] at h2 ⊢
      rw [if_neg (by omega), if_neg (by omega)] at h2 ⊢
      split at h2
      · rename_i h3; rw [if_pos h3]; exact ⟨rfl, h3⟩
      · cases h2
    rw [hd.1, hd.2]
    refine ⟨?_, Nat.le_refl _⟩
    cases (b / 2147483648 % 2 == 1) <;> decide

theorem db_nan_abs {d : Nat} (h : IsD d none) : IsD (d % 9223372036854775808) none := by
  have hs : Ieee.double.signWeight = 9223372036854775808 := rfl
  have hn : (Ieee.double.read d).isNaN = true := by
    have := h.out
    unfold db fbOf at this
    split at this
    · assumption
    · cases this
  have hn' : (Ieee.double.read (d % 9223372036854775808)).isNaN = true := by
    unfold Ieee.Format.read at hn ⊢
    simp only [hs, Nat.mod_mod] at hn ⊢
    split
    · rename_i h1; rw [if_pos h1] at hn; cases hn
    · rename_i h1; rw [if_neg h1] at hn
      split
      · rename_i h2; rw [if_pos h2] at hn; cases hn
      · rename_i h2; rw [if_neg h2] at hn
        split
        · rename_i h3; rw [if_pos h3] at hn; cases hn
        · rfl
  show db _ = none
  unfold db fbOf
  rw [hn']; rfl

set_option maxRecDepth 100000 in
set_option maxHeartbeats 400000 in
theorem size_any (a : Nat) (x : F) (w : World) (ha : Is a x) (hf : Fits x) :
    Calls Try.prog 96 #[.float .f32 a] w (RetF (fabs x) w) := by
  rcases fbOf_cases Ieee.single a with ⟨e1, hn⟩ | ⟨e1, hn⟩
  · have hx : x = none := by rw [← ha.out]; exact e1
    subst hx
    have hE : Hid (wid (fb a) = none) := by show wid (fb a) = none; rw [show fb a = none from e1]; rfl
    go_enter Try.func96, Try.ntmps96
    go_wp2_with (refine wpList_wide (by kernel_rfl) Try.underlying30 _ rfl ?_; intro d n hd)
    have HD := hd
    rw [hE.out] at HD
    refine (Abs_any d _).mono ?_
    rintro e w' ⟨rfl, rfl⟩
    go_wp2_with (refine wpList_narrow_nan (by kernel_rfl) Try.underlying24 _ rfl (db_nan_abs HD) ?_; intro r n2 hr)
    go_ret
    exact ⟨_, rfl, hr, below_drawn (Below.refl _ _) _⟩
  · have hx : x = some a := by rw [← ha.out]; exact e1
    subst hx
    have hb : a < 4294967296 := hf a rfl
    obtain ⟨hw, hle⟩ := wide_size a hn
    have HW := Lib.hid hw
    have HV : Hid (fabs (some a) = some (a % 2147483648)) := fabs_num a hb hle
    have hE : Hid (wid (fb a) = some (Ieee.double.write (Ieee.single.read a))) := by show wid (fb a) = _; rw [show fb a = some a from e1]; rfl
    have hre : Hid (fb (a % 2147483648) = some (a % 2147483648)) := by
      show fbOf _ _ = _
      unfold fbOf
      have : (Ieee.single.read (a % 2147483648)).isNaN = false := read_word Ieee.single false hle
      rw [this]; rfl
    clear hw hn
    go_enter Try.func96, Try.ntmps96
    go_wp2_with (refine wpList_wide (by kernel_rfl) Try.underlying30 _ rfl ?_; intro d n hd)
    have HD := hd
    rw [hE.out] at HD
    obtain ⟨rfl, _⟩ := db_some HD.out
    refine (Abs_any _ _).mono ?_
    rintro e w' ⟨rfl, rfl⟩
    go_wp2_with (refine wpList_narrow (by kernel_rfl) Try.underlying24 _ _ rfl HW.out ?_)
    go_ret
    exact ⟨_, rfl, by show fb _ = _; rw [HV.out]; exact hre.out, below_drawn (Below.refl _ _) _⟩
end Go.Proofs.Ytonmdkhfongmhaa
