/- A logger's number: both walks. -/
import Derived.Test.YtonmdkhfongmhaaTlog
import Derived.Deep.Cut
namespace Go.Proofs.Ytonmdkhfongmhaa
open Go.RowKit

def cutF (x : F) : Int := match x with | some b => cutI b | none => 0
def upF (x : F) : F := fadd (fmul x (some 1098907648)) (some 1056964608)
def dnF (x : F) : F := fsub (fmul x (some 1098907648)) (some 1056964608)
/-- What a logger tells of a level. -/
def logF (x : F) : Int :=
  if fge (fmul x (some 1098907648)) (some 0) = true then (if flt (upF x) (some 1191181824) = true then cutF (upF x) else 32767)
  else if flt (fmul x (some 1098907648)) (some 0) = true then (if fgt (dnF x) (some 3338665984) = true then cutF (dnF x) else -32768)
  else 0
theorem fb16 : fb 1098907648 = some 1098907648 := by decide
theorem fbH : fb 1056964608 = some 1056964608 := by decide
theorem fbU : fb 1191181824 = some 1191181824 := by decide
theorem fbD : fb 3338665984 = some 3338665984 := by decide
theorem fb_num {r b : Nat} (h : fb r = some b) : r = b ∧ (Ieee.single.read r).isNaN = false := by
  rcases fbOf_cases Ieee.single r with ⟨e1, hn⟩ | ⟨e1, hn⟩
  · have : fb r = none := e1
    rw [this] at h; cases h
  · have : fb r = some r := e1
    rw [this] at h
    exact ⟨Option.some.inj h, hn⟩

theorem fcase (x y : F) : (flt x y = false ∧ feq x y = false ∧ fgt x y = false) ∨ (flt x y = true ∧ feq x y = false ∧ fgt x y = false) ∨ (flt x y = false ∧ fge x y = true ∧ ((feq x y = true ∧ fgt x y = false) ∨ (feq x y = false ∧ fgt x y = true))) := by
  unfold fge flt feq fgt
  cases ford x y with
  | none => exact .inl ⟨rfl, rfl, rfl⟩
  | some o =>
    cases o
    · exact .inr (.inl ⟨rfl, rfl, rfl⟩)
    · exact .inr (.inr ⟨rfl, rfl, .inl ⟨rfl, rfl⟩⟩)
    · exact .inr (.inr ⟨rfl, rfl, .inr ⟨rfl, rfl⟩⟩)
theorem fge_some {r : Nat} (h : fge (fb r) (some 0) = true) : fb r = some r := by
  rcases fbOf_cases Ieee.single r with ⟨e1, hn⟩ | ⟨e1, hn⟩
  · have : fb r = none := e1
    rw [this] at h; cases h
  · exact e1
theorem flt_some {r : Nat} (h : flt (fb r) (some 0) = true) : fb r = some r := by
  rcases fbOf_cases Ieee.single r with ⟨e1, hn⟩ | ⟨e1, hn⟩
  · have : fb r = none := e1
    rw [this] at h; cases h
  · exact e1
theorem conv32 (u : Nat) (n : Int) (h : floatToIntVal .f32 u .i64 = some n) (w : World) : (convert 24 2 (.float .f32 u)).run Try.prog w = .ok (.int .i64 n) w :=
  run_convert_float_int w 24 2 .f32 .i64 u n (by kernel_rfl) Try.underlying2 h
theorem conv64 (u : Nat) (n : Int) (h : floatToIntVal .f64 u .i16 = some n) (w : World) : (convert 30 79 (.float .f64 u)).run Try.prog w = .ok (.int .i16 n) w :=
  run_convert_float_int w 30 79 .f64 .i16 u n (by kernel_rfl) Try.underlying79 h

set_option maxRecDepth 100000 in
set_option maxHeartbeats 1600000 in
theorem l04Logger_any (a : Nat) (x : F) (w : World) (ha : Is a x) :
    Calls Try.prog 71 #[.float .f32 a] w fun e w' => e = .returned (.int .i16 (logF x)) ∧ Below w.heap.size w w' := by
  have hlt' := order_lt
  have heq' := order_eq
  have hgt' := order_gt
  have HA := Lib.hid ha.out
  clear ha
  go_enter Try.func71, Try.ntmps71
  go_upto_region 2 with (first | ((with_reducible refine wpList_gate ?_); refine wpList_arith _ _ rfl rfl rfl ?_; intro r n hr))
  have HZ : Hid (fmul x (some 1098907648) = fb r) := by show _ = _; rw [hr.out, HA.out]; rfl
  clear hr
  rcases fcase (fb r) (fb 0) with ⟨h1, h2, h3⟩ | ⟨h1, h2, h3⟩ | ⟨h1, hge, h23⟩
  · have HV : Hid (logF x = 0) := by
      show _ = _
      unfold logF
      have e1 : fge (fb r) (some 0) = false := by unfold fge; rw [← fb0, h2, h3]; rfl
      have e2 : flt (fb r) (some 0) = false := by rw [← fb0, h1]
      rw [HZ.out, e1, e2]; rfl
    go_wp2_with fail
    go_ret
    exact ⟨by rw [HV.out]; rfl, below_drawn (Below.refl _ _) _⟩
  · have e2 : flt (fb r) (some 0) = true := by rw [← fb0, h1]
    have hsome := flt_some e2
    obtain ⟨r', hr', hsub⟩ := dn_neg (b := r) (by rw [← hsome]; exact e2)
    have HV : Hid (logF x = if fgt (fsub (some r) (some 1056964608)) (some 3338665984) = true then cutF (fsub (some r) (some 1056964608)) else -32768) := by
      show _ = _
      unfold logF dnF
      have e1 : fge (fb r) (some 0) = false := by unfold fge; rw [← fb0, h2, h3]; rfl
      rw [HZ.out, e1, e2, if_neg (by decide), if_pos rfl, hsome]
    rw [hsub] at HV
    have HSUB := Lib.hid hsub
    have HSOME := Lib.hid hsome
    clear e2 hsome hsub HZ
    go_upto_region 9 with (first | ((with_reducible refine wpList_gate ?_); refine wpList_arith _ _ rfl rfl rfl ?_; intro u m hu))
    have hfu : fb u = some (2147483648 + r') := by rw [hu.out, HSOME.out]; exact HSUB.out
    obtain ⟨rfl, hnan⟩ := fb_num hfu
    clear hu
    rw [← hfu] at HV
    have HFU := Lib.hid hfu
    clear hfu
    cases hf : fgt (fb (2147483648 + r')) (fb 3338665984)
    · have HV2 : Hid (logF x = -32768) := by show _ = _; rw [HV.out, ← fbD, hf]; rfl
      go_wp2_with fail
      go_ret
      exact ⟨by rw [HV2.out]; rfl, below_drawn (Below.refl _ _) _⟩
    · have HV2 : Hid (logF x = cutI (2147483648 + r')) := by show _ = _; rw [HV.out, ← fbD, hf, if_pos rfl, HFU.out]; rfl
      have hlow := dn_low hr' (by rw [← HFU.out, ← fbD]; exact hf)
      obtain ⟨hr1, hc1, hc2⟩ := cut_ok true hlow
      have hcv := conv32 (2147483648 + r') _ hc1
      have hwr : IntKind.i16.wrap (cutI (2147483648 + r')) = cutI (2147483648 + r') := IntWalk.i16_in _ hr1
      have hcv' : ∀ w : World, (convert 24 2 (.float .f32 (2147483648 + r'))).run Try.prog w = .ok (.int .i64 (cutI (2147483648 + r'))) w := hcv
      clear hcv hc1 hc2 hr1
      generalize cutI (2147483648 + r') = c at hwr hcv' HV2
      go_wp2_with fail
      go_ret
      exact ⟨by rw [HV2.out]; rfl, below_drawn (Below.refl _ _) _⟩
  · have hge' : fge (fb r) (some 0) = true := by rw [← fb0]; exact hge
    have hsome := fge_some hge'
    obtain ⟨r', hr', hadd⟩ := up_pos (b := r) (by rw [← hsome]; exact hge')
    have HV : Hid (logF x = if flt (fadd (some r) (some 1056964608)) (some 1191181824) = true then cutF (fadd (some r) (some 1056964608)) else 32767) := by
      show _ = _
      unfold logF upF
      rw [HZ.out, hge', if_pos rfl, hsome]
    rw [hadd] at HV
    have HADD := Lib.hid hadd
    have HSOME := Lib.hid hsome
    clear hge hge' hsome hadd HZ
    rcases h23 with ⟨h2, h3⟩ | ⟨h2, h3⟩
    all_goals
      go_upto_region 4 with (first | ((with_reducible refine wpList_gate ?_); refine wpList_arith _ _ rfl rfl rfl ?_; intro u m hu))
      have hfu : fb u = some r' := by rw [hu.out, HSOME.out]; exact HADD.out
      obtain ⟨rfl, hnan⟩ := fb_num hfu
      clear hu
      rw [← hfu] at HV
      have HFU := Lib.hid hfu
      clear hfu
      cases hf : flt (fb u) (fb 1191181824)
      · have HV2 : Hid (logF x = 32767) := by show _ = _; rw [HV.out, ← fbU, hf]; rfl
        go_wp2_with fail
        go_ret
        exact ⟨by rw [HV2.out]; rfl, below_drawn (Below.refl _ _) _⟩
      · have HV2 : Hid (logF x = cutI u) := by show _ = _; rw [HV.out, ← fbU, hf, if_pos rfl, HFU.out]; rfl
        have hlow := up_low hr' (by rw [← HFU.out, ← fbU]; exact hf)
        obtain ⟨hr1, hc1, hc2⟩ := cut_ok false hlow
        have hcv' : ∀ w : World, (convert 24 2 (.float .f32 u)).run Try.prog w = .ok (.int .i64 (cutI u)) w := conv32 u _ hc1
        have hwr : IntKind.i16.wrap (cutI u) = cutI u := IntWalk.i16_in _ hr1
        clear hc1 hc2 hr1
        generalize cutI u = c at hwr hcv' HV2
        go_wp2_with fail
        go_ret
        exact ⟨by rw [HV2.out]; rfl, below_drawn (Below.refl _ _) _⟩

theorem wide_bits (s : Bool) {r : Nat} (hr : r < 1191182336) : floatToFloatBits .f32 (Ieee.single.word s r) .f64 = some (Ieee.double.write (Ieee.single.read (Ieee.single.word s r))) := by
  obtain ⟨m, e, hd, h2, h3, h4⟩ := read_word_of s (r := r) (by omega)
  have hd2 : FloatKind.f32.decode (Ieee.single.word s r) = .number s m e := hd
  unfold floatToFloatBits
  rw [hd, hd2]
  have hfin : (FloatKind.f64.decode (Ieee.double.write (.number s m e))).isInfinity = false := by
    show (Ieee.double.read (Ieee.double.write (.number s m e))).isInfinity = false
    by_cases h0 : m = 0
    · subst h0; rw [wide_zero]; rfl
    · rw [wide_sign s m e h0 (by omega) h3 (by omega)]; rfl
  rw [if_neg (by simp)]
  have e2 : FloatKind.f64.encode (.number s m e) = Ieee.double.write (.number s m e) := rfl
  simp only [e2]
  rw [hfin]
  rfl

set_option maxHeartbeats 400000 in
theorem isNaN_any (r : Nat) (w : World) : Calls Try.prog 105 #[.float .f32 r] w fun e w' => e = .returned (.bool (!feq (fb r) (fb r))) ∧ w = w' := by
  have heq' := order_eq
  go_enter Try.func105, Try.ntmps105
  go_wp2_with fail
  go_ret
  refine ⟨?_, rfl⟩
  rw [← order_eq]; rfl
theorem integral_run (nm : String) (way : Ieee.Toward) (d : Nat) (s : Bool) (m : Nat) (e : Int) (hd : FloatKind.f64.decode d = .number s m e) :
    Extern.MathFloor.toIntegral nm way #[.float .f64 d] = pure (.float .f64 (Ieee.double.write ((Ieee.Datum.number s m e).integral way))) := by
  conv => lhs; whnf
  rw [hd]
  rfl
theorem run_archFloor (d : Nat) (s : Bool) (m : Nat) (e : Int) (hd : FloatKind.f64.decode d = .number s m e) (w : World) : (callFunc 121 #[.float .f64 d]).run Try.prog w = .ok (.value (.float .f64 (Ieee.double.write ((Ieee.double.read d).integral .down)))) w := by
  rw [run_callFunc_extern (e := Extern.MathFloor.toIntegral "math.archFloor" .down) Try.func121 (by kernel_rfl) (by kernel_rfl) (by kernel_rfl) (by kernel_rfl)]
  have hd2 : Ieee.double.read d = .number s m e := hd
  rw [integral_run _ _ _ _ _ _ hd, hd2]
  rfl
theorem run_archCeil (d : Nat) (s : Bool) (m : Nat) (e : Int) (hd : FloatKind.f64.decode d = .number s m e) (w : World) : (callFunc 123 #[.float .f64 d]).run Try.prog w = .ok (.value (.float .f64 (Ieee.double.write ((Ieee.double.read d).integral .up)))) w := by
  rw [run_callFunc_extern (e := Extern.MathFloor.toIntegral "math.archCeil" .up) Try.func123 (by kernel_rfl) (by kernel_rfl) (by kernel_rfl) (by kernel_rfl)]
  have hd2 : Ieee.double.read d = .number s m e := hd
  rw [integral_run _ _ _ _ _ _ hd, hd2]
  rfl
set_option maxHeartbeats 400000 in
theorem Floor_any (d : Nat) (s : Bool) (m : Nat) (e : Int) (hd : FloatKind.f64.decode d = .number s m e) (w : World) : Calls Try.prog 106 #[.float .f64 d] w fun x w' => x = .returned (.float .f64 (Ieee.double.write ((Ieee.double.read d).integral .down))) ∧ w = w' := by
  have h1 := run_archFloor d s m e hd
  clear hd
  generalize Ieee.double.write ((Ieee.double.read d).integral .down) = D at h1 ⊢
  go_enter Try.func106, Try.ntmps106
  go_wp2_with fail
  go_ret
  exact ⟨rfl, rfl⟩
set_option maxHeartbeats 400000 in
theorem Ceil_any (d : Nat) (s : Bool) (m : Nat) (e : Int) (hd : FloatKind.f64.decode d = .number s m e) (w : World) : Calls Try.prog 107 #[.float .f64 d] w fun x w' => x = .returned (.float .f64 (Ieee.double.write ((Ieee.double.read d).integral .up))) ∧ w = w' := by
  have h1 := run_archCeil d s m e hd
  clear hd
  generalize Ieee.double.write ((Ieee.double.read d).integral .up) = D at h1 ⊢
  go_enter Try.func107, Try.ntmps107
  go_wp2_with fail
  go_ret
  exact ⟨rfl, rfl⟩
theorem wide_num (s : Bool) {r : Nat} (hr : r < 1191182336) : ∃ s' m e, FloatKind.f64.decode (Ieee.double.write (Ieee.single.read (Ieee.single.word s r))) = .number s' m e := by
  obtain ⟨m, e, hd, h2, h3, h4⟩ := read_word_of s (r := r) (by omega)
  rw [hd]
  show ∃ s' m' e', Ieee.double.read (Ieee.double.write (.number s m e)) = _
  by_cases h0 : m = 0
  · subst h0; rw [wide_zero]; exact ⟨_, _, _, rfl⟩
  · rw [wide_sign s m e h0 (by omega) h3 (by omega)]; exact ⟨_, _, _, rfl⟩

theorem feq_refl {r : Nat} (h : fb r = some r) : feq (fb r) (fb r) = true := by
  obtain ⟨_, hn⟩ := fb_num h
  rw [h]
  rcases fcase (some r) (some r) with ⟨h1, h2, h3⟩ | ⟨h1, h2, h3⟩ | ⟨h1, hge, h23⟩
  · have := ford_tri (ford_some hn hn)
    rw [h1] at this
    unfold fge at this
    rw [h2, h3] at this
    cases this.1
  · exfalso
    unfold flt at h1
    have : (Ieee.single.read r).order (Ieee.single.read r) = some .lt := by
      have e : ford (some r) (some r) = (Ieee.single.read r).order (Ieee.single.read r) := rfl
      rw [← e]
      simpa using h1
    cases hd : Ieee.single.read r <;> rw [hd] at this <;> simp [Ieee.Datum.order] at this
  · rcases h23 with ⟨h2, _⟩ | ⟨_, h3⟩
    · exact h2
    · exfalso
      unfold fgt at h3
      have : (Ieee.single.read r).order (Ieee.single.read r) = some .gt := by
        have e : ford (some r) (some r) = (Ieee.single.read r).order (Ieee.single.read r) := rfl
        rw [← e]
        simpa using h3
      cases hd : Ieee.single.read r <;> rw [hd] at this <;> simp [Ieee.Datum.order] at this
theorem word_f (r : Nat) : Ieee.single.word false r = r := rfl
theorem word_t (r : Nat) : Ieee.single.word true r = 2147483648 + r := rfl

set_option maxRecDepth 100000 in
set_option maxHeartbeats 3200000 in
theorem LoggerOf_any (a : Nat) (x : F) (w : World) (ha : Is a x) :
    Calls Try.prog 76 #[.float .f32 a] w fun e w' => e = .returned (.int .i16 (logF x)) ∧ Below w.heap.size w w' := by
  have hlt' := order_lt
  have heq' := order_eq
  have hgt' := order_gt
  have HA := Lib.hid ha.out
  clear ha
  go_enter Try.func76, Try.ntmps76
  go_upto_region 2 with (first | ((with_reducible refine wpList_gate ?_); refine wpList_arith _ _ rfl rfl rfl ?_; intro r n hr))
  have HZ : Hid (fmul x (some 1098907648) = fb r) := by show _ = _; rw [hr.out, HA.out]; rfl
  clear hr
  rcases fcase (fb r) (fb 0) with ⟨h1, h2, h3⟩ | ⟨h1, h2, h3⟩ | ⟨h1, hge, h23⟩
  · have HV : Hid (logF x = 0) := by
      show _ = _
      unfold logF
      have e1 : fge (fb r) (some 0) = false := by unfold fge; rw [← fb0, h2, h3]; rfl
      have e2 : flt (fb r) (some 0) = false := by rw [← fb0, h1]
      rw [HZ.out, e1, e2]; rfl
    have HN : Hid (feq (fb r) (fb r) = false) := by
      show _ = _
      rcases fbOf_cases Ieee.single r with ⟨e1, hn⟩ | ⟨e1, hn⟩
      · have : fb r = none := e1
        rw [this]; rfl
      · exfalso
        have e2 : fb r = some r := e1
        have := ford_tri (ford_some hn (by decide : (Ieee.single.read 0).isNaN = false))
        rw [← e2, ← fb0, h1] at this
        unfold fge at this
        rw [h2, h3] at this
        cases this.1
    go_wp2_with (go_at_call 105; refine (isNaN_any r _).mono ?_; rw [HN.out]; rintro e w1 ⟨rfl, rfl⟩)
    go_ret
    exact ⟨by rw [HV.out]; rfl, below_drawn (Below.refl _ _) _⟩
  · have e2 : flt (fb r) (some 0) = true := by rw [← fb0, h1]
    have hsome := flt_some e2
    obtain ⟨r', hr', hsub⟩ := dn_neg (b := r) (by rw [← hsome]; exact e2)
    have HV : Hid (logF x = if fgt (fsub (some r) (some 1056964608)) (some 3338665984) = true then cutF (fsub (some r) (some 1056964608)) else -32768) := by
      show _ = _
      unfold logF dnF
      have e1 : fge (fb r) (some 0) = false := by unfold fge; rw [← fb0, h2, h3]; rfl
      rw [HZ.out, e1, e2, if_neg (by decide), if_pos rfl, hsome]
    rw [hsub] at HV
    have HN := Lib.hid (feq_refl hsome)
    have hrun : ∀ w : World, (binOp .sub 24 (.float .f32 r) (.float .f32 1056964608)).run Try.prog w = .ok (.float .f32 (2147483648 + r')) w := fun w => run_float_arith w .sub 24 .f32 r 1056964608 _ hsub
    have hfu : fb (2147483648 + r') = some (2147483648 + r') := by
      have : Ieee.single.word true r' = 2147483648 + r' := rfl
      rw [← this]
      show fbOf _ _ = _
      unfold fbOf
      rw [read_word Ieee.single true hr']; rfl
    have hnan := (fb_num hfu).2
    rw [← hfu] at HV
    have HFU := Lib.hid hfu
    clear hfu e2 hsome hsub HZ
    rcases fcase (fb (2147483648 + r')) (fb 3338665984) with ⟨k1, k2, k3⟩ | ⟨k1, k2, k3⟩ | ⟨k1, kge, ⟨k2, k3⟩ | ⟨k2, k3⟩⟩
    · exfalso
      have := ford_tri (ford_some hnan (by decide : (Ieee.single.read 3338665984).isNaN = false))
      rw [← HFU.out, ← fbD, k1] at this
      unfold fge at this
      rw [k2, k3] at this
      cases this.1
    · have HV2 : Hid (logF x = -32768) := by show _ = _; rw [HV.out, ← fbD, k3]; rfl
      go_wp2_with (go_at_call 105; refine (isNaN_any r _).mono ?_; rw [HN.out]; rintro e w1 ⟨rfl, rfl⟩)
      go_ret
      exact ⟨by rw [HV2.out]; rfl, below_drawn (Below.refl _ _) _⟩
    · have HV2 : Hid (logF x = -32768) := by show _ = _; rw [HV.out, ← fbD, k3]; rfl
      go_wp2_with (go_at_call 105; refine (isNaN_any r _).mono ?_; rw [HN.out]; rintro e w1 ⟨rfl, rfl⟩)
      go_ret
      exact ⟨by rw [HV2.out]; rfl, below_drawn (Below.refl _ _) _⟩
    · have HV2 : Hid (logF x = cutI (2147483648 + r')) := by show _ = _; rw [HV.out, ← fbD, k3, if_pos rfl, HFU.out]; rfl
      have hlow := dn_low hr' (by rw [← HFU.out, ← fbD]; exact k3)
      obtain ⟨hr1, hc1, hc2⟩ := cut_ok true hlow
      obtain ⟨s', m', e', hnum⟩ := wide_num true hlow
      have hwd : ∀ w : World, (convert 24 30 (.float .f32 (2147483648 + r'))).run Try.prog w = .ok (.float .f64 (Ieee.double.write (Ieee.single.read (Ieee.single.word true r')))) w :=
        fun w => run_convert_float_float w 24 30 .f32 .f64 _ _ (by kernel_rfl) Try.underlying30 (wide_bits true hlow)
      have hcv := conv64 _ _ hc2
      have HFL := Lib.hid (Ceil_any _ s' m' e' hnum)
      have HW : Hid (cutI (Ieee.single.word true r') = cutI (2147483648 + r')) := rfl
      rw [HW.out] at hcv
      clear hc1 hc2 hr1 hnum
      generalize cutI (2147483648 + r') = c at hcv HV2 HW
      have HFL2 : Hid (∀ w : World, Calls Try.prog 107 #[.float .f64 (Ieee.double.write (Ieee.single.read (Ieee.single.word true r')))] w fun x w' => x = .returned (.float .f64 (Ieee.double.write ((Ieee.double.read (Ieee.double.write (Ieee.single.read (Ieee.single.word true r')))).integral (inW true)))) ∧ w = w') := HFL.out
      clear HFL
      generalize Ieee.double.write ((Ieee.double.read (Ieee.double.write (Ieee.single.read (Ieee.single.word true r')))).integral (inW true)) = D2 at hcv HFL2
      generalize Ieee.double.write (Ieee.single.read (Ieee.single.word true r')) = D1 at hwd HFL2
      go_wp2_with (first | (go_at_call 105; refine (isNaN_any r _).mono ?_; rw [HN.out]; rintro e w1 ⟨rfl, rfl⟩) | (go_at_call 107; refine (HFL2.out _).mono ?_; rintro e w1 ⟨rfl, rfl⟩))
      go_ret
      exact ⟨by rw [HV2.out]; rfl, below_drawn (Below.refl _ _) _⟩
  · have hge' : fge (fb r) (some 0) = true := by rw [← fb0]; exact hge
    have hsome := fge_some hge'
    obtain ⟨r', hr', hadd⟩ := up_pos (b := r) (by rw [← hsome]; exact hge')
    have HV : Hid (logF x = if flt (fadd (some r) (some 1056964608)) (some 1191181824) = true then cutF (fadd (some r) (some 1056964608)) else 32767) := by
      show _ = _
      unfold logF upF
      rw [HZ.out, hge', if_pos rfl, hsome]
    rw [hadd] at HV
    have HN := Lib.hid (feq_refl hsome)
    have hrun : ∀ w : World, (binOp .add 24 (.float .f32 r) (.float .f32 1056964608)).run Try.prog w = .ok (.float .f32 r') w := fun w => run_float_arith w .add 24 .f32 r 1056964608 _ hadd
    have hfu : fb r' = some r' := by
      have : Ieee.single.word false r' = r' := rfl
      rw [← this]
      show fbOf _ _ = _
      unfold fbOf
      rw [read_word Ieee.single false hr']; rfl
    have hnan := (fb_num hfu).2
    rw [← hfu] at HV
    have HFU := Lib.hid hfu
    clear hfu hge hge' hsome hadd HZ
    rcases fcase (fb r') (fb 1191181824) with ⟨k1, k2, k3⟩ | ⟨k1, k2, k3⟩ | ⟨k1, kge, k23⟩
    · exfalso
      have := ford_tri (ford_some hnan (by decide : (Ieee.single.read 1191181824).isNaN = false))
      rw [← HFU.out, ← fbU, k1] at this
      unfold fge at this
      rw [k2, k3] at this
      cases this.1
    · have HV2 : Hid (logF x = cutI r') := by show _ = _; rw [HV.out, ← fbU, k1, if_pos rfl, HFU.out]; rfl
      have hlow := up_low hr' (by rw [← HFU.out, ← fbU]; exact k1)
      obtain ⟨hr1, hc1, hc2⟩ := cut_ok false hlow
      obtain ⟨s', m', e', hnum⟩ := wide_num false hlow
      have hwd : ∀ w : World, (convert 24 30 (.float .f32 r')).run Try.prog w = .ok (.float .f64 (Ieee.double.write (Ieee.single.read (Ieee.single.word false r')))) w :=
        fun w => run_convert_float_float w 24 30 .f32 .f64 _ _ (by kernel_rfl) Try.underlying30 (wide_bits false hlow)
      have hcv := conv64 _ _ hc2
      have HFL := Lib.hid (Floor_any _ s' m' e' hnum)
      have HW : Hid (cutI (Ieee.single.word false r') = cutI r') := rfl
      rw [HW.out] at hcv
      clear hc1 hc2 hr1 hnum
      generalize cutI r' = c at hcv HV2 HW
      have HFL2 : Hid (∀ w : World, Calls Try.prog 106 #[.float .f64 (Ieee.double.write (Ieee.single.read (Ieee.single.word false r')))] w fun x w' => x = .returned (.float .f64 (Ieee.double.write ((Ieee.double.read (Ieee.double.write (Ieee.single.read (Ieee.single.word false r')))).integral (inW false)))) ∧ w = w') := HFL.out
      clear HFL
      generalize Ieee.double.write ((Ieee.double.read (Ieee.double.write (Ieee.single.read (Ieee.single.word false r')))).integral (inW false)) = D2 at hcv HFL2
      generalize Ieee.double.write (Ieee.single.read (Ieee.single.word false r')) = D1 at hwd HFL2
      rcases h23 with ⟨h2, h3⟩ | ⟨h2, h3⟩
      all_goals
        go_wp2_with (first | (go_at_call 105; refine (isNaN_any r _).mono ?_; rw [HN.out]; rintro e w1 ⟨rfl, rfl⟩) | (go_at_call 106; refine (HFL2.out _).mono ?_; rintro e w1 ⟨rfl, rfl⟩))
        go_ret
        exact ⟨by rw [HV2.out]; rfl, below_drawn (Below.refl _ _) _⟩
    · have HV2 : Hid (logF x = 32767) := by show _ = _; rw [HV.out, ← fbU, k1]; rfl
      rcases h23 with ⟨h2, h3⟩ | ⟨h2, h3⟩ <;> rcases k23 with ⟨k2, k3⟩ | ⟨k2, k3⟩
      all_goals
        go_wp2_with (go_at_call 105; refine (isNaN_any r _).mono ?_; rw [HN.out]; rintro e w1 ⟨rfl, rfl⟩)
        go_ret
        exact ⟨by rw [HV2.out]; rfl, below_drawn (Below.refl _ _) _⟩
end Go.Proofs.Ytonmdkhfongmhaa
