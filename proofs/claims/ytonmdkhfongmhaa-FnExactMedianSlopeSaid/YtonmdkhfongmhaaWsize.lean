/- The sizes of drawdowns. -/
import Derived.Test.YtonmdkhfongmhaaTM1
import Derived.Test.YtonmdkhfongmhaaGreat
namespace Go.Proofs.Ytonmdkhfongmhaa
open Go.RowKit

/-- Alike in every comparison. -/
def SameOrd (x y : F) : Prop := ∀ z, ford x z = ford y z ∧ ford z x = ford z y
theorem SameOrd.refl (x : F) : SameOrd x x := fun _ => ⟨rfl, rfl⟩
theorem SameOrd.gt {x y a b : F} (h : SameOrd x a) (h' : SameOrd y b) : fgt x y = fgt a b := by
  unfold fgt
  rw [(h y).1, (h' a).2]

theorem neg_bits {a : Nat} (h1 : 2147483648 ≤ a) (h2 : a < 4294967296) : Op.negFloat .f32 a = a % 2147483648 := by
  show a ^^^ 2 ^ 31 = a % 2 ^ 31
  apply Nat.eq_of_testBit_eq
  intro i
  rw [Nat.testBit_xor, Nat.testBit_two_pow, Nat.testBit_mod_two_pow]
  by_cases h : i < 31
  · have : ¬ 31 = i := by omega
    simp [h, this]
  · by_cases e : 31 = i
    · subst e
      have : a.testBit 31 = true := by
        rw [Nat.testBit_eq_decide_div_mod_eq]
        exact decide_eq_true (by omega)
      simp [this]
    · have : a.testBit i = false := Nat.testBit_lt_two_pow (Nat.lt_of_lt_of_le (show a < 2 ^ 32 from h2) (Nat.pow_le_pow_right (by decide) (by omega)))
      simp [h, e, this]

theorem sign_of {a : Nat} (h : a < 4294967296) : (a / 2147483648 % 2 == 1) = decide (2147483648 ≤ a) := by
  by_cases h1 : 2147483648 ≤ a
  · rw [decide_eq_true h1, show a / 2147483648 % 2 = 1 by omega]; rfl
  · rw [decide_eq_false h1, show a / 2147483648 % 2 = 0 by omega]; rfl

/-- The size by the reference: alike in comparisons. -/
theorem size_alike {a : Nat} (h : a < 4294967296) (hn : (Ieee.single.read a).isNaN = false) :
    (flt (some a) (some 0) = true → fabs (some a) = some (Op.negFloat .f32 a)) ∧ (flt (some a) (some 0) = false → SameOrd (some a) (fabs (some a))) := by
  obtain ⟨_, hle⟩ := wide_size a hn
  have hf := fabs_num a h hle
  have ho : ford (some a) (some 0) = (Ieee.single.read a).order (Ieee.single.read 0) := rfl
  by_cases hs : 2147483648 ≤ a
  · refine ⟨fun _ => by rw [hf, neg_bits hs h], fun hl => ?_⟩
    rw [hf]
    rcases Nat.lt_or_ge (a % 2147483648) 2139095040 with hfin | hinf
    · obtain ⟨m, e, hr, h1, h2, h3⟩ := read_rung a hfin
      rw [sign_of h, decide_eq_true hs] at hr
      have hv := val_of hr h2
      rw [flt_val hv val_zero] at hl
      have hl := of_decide_eq_false hl
      have hsg : Ieee.signed true m (e + 149).toNat = -((m <<< (e + 149).toNat : Nat) : Int) := rfl
      rw [hsg] at hl
      have hz : m <<< (e + 149).toNat = 0 := by
        generalize m <<< (e + 149).toNat = M at hl
        omega
      rw [Nat.shiftLeft_eq] at hz
      have hm : m = 0 := by
        rcases Nat.mul_eq_zero.1 hz with h | h
        · exact h
        · exact absurd h (Nat.pos_iff_ne_zero.1 (Nat.two_pow_pos _))
      subst hm
      have he : e = -149 := by rcases h3 with ⟨h, _⟩ | ⟨h, _⟩; exact h; omega
      subst he
      have ha : a % 2147483648 = 0 := by simp at h1; omega
      rw [ha]
      intro z
      have key : ∀ d : Ieee.Datum, (Ieee.Datum.number true 0 (-149)).order d = (Ieee.Datum.number false 0 (-149)).order d ∧ d.order (.number true 0 (-149)) = d.order (.number false 0 (-149)) := by
        intro d
        cases d <;> simp [Ieee.Datum.order, Ieee.signed]
      cases z with
      | none => exact ⟨rfl, rfl⟩
      | some z =>
        have e1 : ford (some a) (some z) = (Ieee.single.read a).order (Ieee.single.read z) := rfl
        have e2 : ford (some z) (some a) = (Ieee.single.read z).order (Ieee.single.read a) := rfl
        have e3 : ford (some 0) (some z) = (Ieee.single.read 0).order (Ieee.single.read z) := rfl
        have e4 : ford (some z) (some 0) = (Ieee.single.read z).order (Ieee.single.read 0) := rfl
        rw [e1, e2, e3, e4, hr, read0]
        exact key _
    · exfalso
      have hi : a % 2147483648 = 2139095040 := by omega
      have hr : Ieee.single.read a = .infinity true := by
        have hb : Ieee.single.binade = 8388608 := rfl
        have hi2 : Ieee.single.infRung = 2139095040 := rfl
        have hs2 : Ieee.single.signWeight = 2147483648 := rfl
        unfold Ieee.Format.read
        simp only [hb, hi2, hs2, hi]
        rw [if_neg (by omega), if_neg (by omega), if_pos trivial, sign_of h, decide_eq_true hs]
      unfold flt at hl
      rw [ho, hr, read0] at hl
      cases hl
  · have hm : a % 2147483648 = a := Nat.mod_eq_of_lt (by omega)
    refine ⟨fun hl => ?_, fun _ => by rw [hf, hm]; exact SameOrd.refl _⟩
    exfalso
    unfold flt at hl
    rw [ho] at hl
    cases hr : Ieee.single.read a with
    | number s m e =>
      obtain ⟨he, _⟩ := read_canon hr
      have hsg : s = false := by
        rcases Nat.lt_or_ge (a % 2147483648) 2139095040 with hfin | hinf
        · obtain ⟨m', e', hr', _⟩ := read_rung a hfin
          rw [hr, sign_of h, decide_eq_false hs] at hr'
          cases hr'; rfl
        · have := (read_canon hr).2.2.2
          omega
      subst hsg
      have hv := val_of hr he
      have := flt_val hv val_zero
      unfold flt at this
      rw [ho] at this
      rw [this] at hl
      have hl := of_decide_eq_true hl
      have hsg : Ieee.signed false m (e + 149).toNat = ((m <<< (e + 149).toNat : Nat) : Int) := rfl
      rw [hsg] at hl
      clear hsg
      generalize m <<< (e + 149).toNat = M at hl
      omega
    | infinity s =>
      have hs3 : s = false := by
        have hb : Ieee.single.binade = 8388608 := rfl
        have hi2 : Ieee.single.infRung = 2139095040 := rfl
        have hs2 : Ieee.single.signWeight = 2147483648 := rfl
        unfold Ieee.Format.read at hr
        simp only [hb, hi2, hs2] at hr
        rw [sign_of h, decide_eq_false hs] at hr
        split at hr
        · cases hr
        · split at hr
          · cases hr
          · split at hr
            · cases hr; rfl
            · cases hr
      subst hs3
      rw [hr, read0] at hl
      cases hl
    | nan s t => rw [hr] at hn; cases hn

set_option maxHeartbeats 400000 in
theorem l03Size_any (a : Nat) (w : World) (hf : Fits (fb a)) :
    Calls Try.prog 61 #[.float .f32 a] w fun e w' => ∃ r, e = .returned (.float .f32 r) ∧ SameOrd (fb r) (fabs (fb a)) ∧ Below w.heap.size w w' := by
  have hlt := order_lt
  rcases fbOf_cases Ieee.single a with ⟨e1, hn⟩ | ⟨e1, hn⟩
  · have e1 : fb a = none := e1
    have hl : flt (fb a) (fb 0) = false := by rw [e1]; rfl
    have HS : Hid (SameOrd (fb a) (fabs (fb a))) := by rw [e1]; exact SameOrd.refl _
    clear e1 hn
    go_enter Try.func61, Try.ntmps61
    go_wp2_with fail
    go_ret
    exact ⟨a, rfl, HS.out, Below.refl _ _⟩
  · have e1 : fb a = some a := e1
    have ha : a < 4294967296 := hf a e1
    obtain ⟨k1, k2⟩ := size_alike ha hn
    cases hl : flt (some a) (some 0)
    · have HS : Hid (SameOrd (fb a) (fabs (fb a))) := by rw [e1]; exact k2 hl
      have hl2 : flt (fb a) (fb 0) = false := by rw [e1, fb0]; exact hl
      clear e1 hn k1 k2 hl
      go_enter Try.func61, Try.ntmps61
      go_wp2_with fail
      go_ret
      exact ⟨a, rfl, HS.out, Below.refl _ _⟩
    · have HS : Hid (SameOrd (fb (Op.negFloat .f32 a)) (fabs (fb a))) := by
        show SameOrd _ _
        rw [e1, k1 hl]
        have hs : 2147483648 ≤ a := by
          rcases Nat.lt_or_ge a 2147483648 with h | h
          · exfalso
            have hm : a % 2147483648 = a := Nat.mod_eq_of_lt h
            have h2 := k1 hl
            obtain ⟨_, hle⟩ := wide_size a hn
            rw [fabs_num a ha hle, hm] at h2
            have h3 : a = Op.negFloat .f32 a := by simpa using h2
            have h4 : a.testBit 31 = (a ^^^ 2 ^ 31).testBit 31 := congrArg (fun n => n.testBit 31) h3
            rw [Nat.testBit_xor, Nat.testBit_two_pow] at h4
            simp at h4
          · exact h
        obtain ⟨_, hle⟩ := wide_size a hn
        have : fb (Op.negFloat .f32 a) = some (Op.negFloat .f32 a) := by
          rw [neg_bits hs ha]
          unfold fb fbOf
          have : (Ieee.single.read (a % 2147483648)).isNaN = false := read_word Ieee.single false hle
          rw [this]; rfl
        rw [this]
        exact SameOrd.refl _
      have hl2 : flt (fb a) (fb 0) = true := by rw [e1, fb0]; exact hl
      have hneg : ∀ w' : World, (Op.unary .neg (.float .f32 a)).run Try.prog w' = .ok (.float .f32 (Op.negFloat .f32 a)) w' := fun _ => rfl
      clear e1 hn k1 k2 hl
      go_enter Try.func61, Try.ntmps61
      go_wp2_with fail
      go_ret
      exact ⟨_, rfl, HS.out, Below.refl _ _⟩
end Go.Proofs.Ytonmdkhfongmhaa
