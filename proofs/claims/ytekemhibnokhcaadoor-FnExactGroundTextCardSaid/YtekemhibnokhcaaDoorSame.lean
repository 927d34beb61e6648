/- The laws' own comparison of numbers: equal numbers are told as equal. -/
import Derived.Test.YtekemhibnokhcaaDoorL01Ok
namespace Go.Proofs.YtekemhibnokhcaaDoor
open Go.RowKit

/-- The same number, wider. -/
def wid (x : F) : F := x.map fun b => Ieee.double.write (Ieee.single.read b)

theorem read_single (b : Nat) : (∃ s m e, Ieee.single.read b = .number s m e ∧ m < 16777216 ∧ -149 ≤ e ∧ e ≤ 104) ∨ (∃ s, Ieee.single.read b = .infinity s) ∨ (∃ s t, Ieee.single.read b = .nan s t) := by
  have hb : Ieee.single.binade = 8388608 := rfl
  have hi : Ieee.single.infRung = 2139095040 := rfl
  have hl : Ieee.single.leastPlace = -149 := rfl
  have hs : Ieee.single.signWeight = 2147483648 := rfl
  unfold Ieee.Format.read
  simp only [hb, hi, hl, hs]
  split
  · exact .inl ⟨_, _, _, rfl, by omega, by omega, by omega⟩
  · split
    · refine .inl ⟨_, _, _, rfl, by omega, by omega, by omega⟩
    · split
      · exact .inr (.inl ⟨_, rfl⟩)
      · exact .inr (.inr ⟨_, _, rfl⟩)

theorem cut_zero (s : Bool) (n : Nat) : Ieee.Toward.even.cut s n 0 = n := by
  unfold Ieee.Toward.cut
  simp [Nat.mod_one]

theorem wide_finite (s : Bool) (m : Nat) (e : Int) (hm : m < 16777216) (h1 : -149 ≤ e) (h2 : e ≤ 104) : (Ieee.double.read (Ieee.double.write (.number s m e))).isInfinity = false := by
  show (Ieee.double.read (Ieee.double.nearest s m e)).isInfinity = false
  have hf : Ieee.double.fractionBits = 52 := rfl
  have hl : Ieee.double.leastPlace = -1074 := rfl
  have hb : Ieee.double.binade = 4503599627370496 := rfl
  have hi : Ieee.double.infRung = 9218868437227405312 := rfl
  have hs : Ieee.double.signWeight = 9223372036854775808 := rfl
  have key : ∃ r, r < 9218868437227405312 ∧ Ieee.double.nearest s m e = Ieee.double.word s r := by
    unfold Ieee.Format.nearest
    by_cases h0 : m = 0
    · rw [if_pos h0]; exact ⟨0, by decide, rfl⟩
    · rw [if_neg h0]
      have hlog : m.log2 ≤ 23 := by
        have := (Nat.log2_lt h0 (k := 24)).2 (by omega)
        omega
      have hlt : m < 2 ^ (m.log2 + 1) := Nat.lt_log2_self
      simp only [hf, hl, hb, hi]
      have e1 : max (e + (m.log2 : Int) - ((52 : Nat) : Int)) (-1074) = e + (m.log2 : Int) - 52 := by omega
      rw [e1]
      have e2 : (e - (e + (m.log2 : Int) - 52)).toNat = 52 - m.log2 := by omega
      have e3 : (e + (m.log2 : Int) - 52 - e).toNat = 0 := by omega
      rw [e2, e3, cut_zero]
      have hk : m <<< (52 - m.log2) < 2 ^ 53 := by
        rw [Nat.shiftLeft_eq]
        calc m * 2 ^ (52 - m.log2) < 2 ^ (m.log2 + 1) * 2 ^ (52 - m.log2) := Nat.mul_lt_mul_of_pos_right hlt (Nat.two_pow_pos _)
          _ = 2 ^ 53 := by rw [← Nat.pow_add]; congr 1; omega
      have ht : (e + (m.log2 : Int) - 52 - -1074).toNat ≤ 1149 := by omega
      refine ⟨_, ?_, rfl⟩
      refine Nat.lt_of_le_of_lt (Nat.min_le_left _ _) ?_
      have := Nat.mul_le_mul_right 4503599627370496 ht
      omega
  obtain ⟨r, hr, he⟩ := key
  rw [he]
  have hm2 : Ieee.double.word s r % Ieee.double.signWeight = r := by
    unfold Ieee.Format.word
    split
    · rw [Nat.add_mod_left]; exact Nat.mod_eq_of_lt (by rw [hs]; omega)
    · exact Nat.mod_eq_of_lt (by rw [hs]; omega)
  unfold Ieee.Format.read
  simp only [hm2, hi]
  split
  · rfl
  · first
      | rfl
      | (split
         · rfl
         · split
           · omega
           · omega)

theorem cut_nanConv (b t : Nat) : db ((Question.nanConv .f64 b).cut t) = none := by
  have h2 : t / 2 % (2 ^ 52 - 1) < 2 ^ 52 - 1 := Nat.mod_lt _ (by decide)
  have h1 : t % 2 < 2 := Nat.mod_lt _ (by decide)
  have e : (Question.nanConv .f64 b).cut t = (t % 2) * 2 ^ 63 + 0x7ff0000000000000 + 1 + (t / 2) % (2 ^ 52 - 1) := rfl
  rw [e]
  generalize t % 2 = a at *
  generalize t / 2 % (2 ^ 52 - 1) = c at *
  have hb : Ieee.double.binade = 4503599627370496 := rfl
  have hi : Ieee.double.infRung = 9218868437227405312 := rfl
  have hs : Ieee.double.signWeight = 9223372036854775808 := rfl
  have hm : (a * 2 ^ 63 + 0x7ff0000000000000 + 1 + c) % Ieee.double.signWeight = 0x7ff0000000000000 + 1 + c := by
    show (a * 2 ^ 63 + 0x7ff0000000000000 + 1 + c) % 9223372036854775808 = _
    omega
  have hn : (Ieee.double.read (a * 2 ^ 63 + 0x7ff0000000000000 + 1 + c)).isNaN = true := by
    unfold Ieee.Format.read
    simp only [hb, hi]
    rw [hm, if_neg (by omega), if_neg (by omega), if_neg (by omega)]
    rfl
  unfold db fbOf
  rw [hn]
  rfl

section
variable {P : Program} (w : World)
/-- 'float64(x)' of a float32. -/
theorem run_wide {src dst : TypeId} {b : Nat} (hs : (P.underlying src).isSome = true) (hd : P.underlying dst = some (.float .f64)) :
    ∃ d n, (convert src dst (.float .f32 b)).run P w = .ok (.float .f64 d) (w.drewN n) ∧ db d = wid (fb b) := by
  obtain ⟨u, hu⟩ := Option.isSome_iff_exists.1 hs
  rcases read_single b with ⟨s, m, e, he, h1, h2, h3⟩ | ⟨s, he⟩ | ⟨s, t, he⟩
  · refine ⟨Ieee.double.write (Ieee.single.read b), 0, ?_, ?_⟩
    · have hw := wide_finite s m e h1 h2 h3
      refine run_convert_float_float w src dst .f32 .f64 b _ hs hd ?_
      unfold floatToFloatBits
      rw [if_neg (by simp)]
      have hde : FloatKind.f32.decode b = .number s m e := he
      rw [hde]
      simp only
      have hii : (FloatKind.f64.decode (FloatKind.f64.encode (.number s m e))).isInfinity = false := hw
      rw [hii, he]
      rfl
    · have hx : fb b = some b := by unfold fb fbOf; rw [he]; rfl
      rw [hx]
      have := write_num Ieee.double (Ieee.single.read b) (by rw [he]; rfl)
      unfold db fbOf
      rw [this]; rfl
  · refine ⟨Ieee.double.write (Ieee.single.read b), 0, ?_, ?_⟩
    · refine run_convert_float_float w src dst .f32 .f64 b _ hs hd ?_
      unfold floatToFloatBits
      rw [if_neg (by simp)]
      have hde : FloatKind.f32.decode b = .infinity s := he
      rw [hde, he]; rfl
    · have hx : fb b = some b := by unfold fb fbOf; rw [he]; rfl
      rw [hx]
      have := write_num Ieee.double (Ieee.single.read b) (by rw [he]; rfl)
      unfold db fbOf
      rw [this]; rfl
  · refine ⟨(Question.nanConv .f64 b).cut (w.tape w.drawn (.nanConv .f64 b)), 1, ?_, ?_⟩
    · have hde : FloatKind.f32.decode b = .nan s t := he
      cases u <;> simp [convert, run_underlying hu, run_underlying hd, Conv.floatToFloat, hde, choose, Sem.run, Question.forced, World.drewN]
    · have hx : fb b = none := by unfold fb fbOf; rw [he]; rfl
      rw [hx, cut_nanConv]; rfl
end
end Go.Proofs.YtekemhibnokhcaaDoor
