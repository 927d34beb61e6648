/- A brine whose salt decays: both sides. -/
import Derived.Test.YtfddjbpfahjleaaBrTimes
namespace Go.Proofs.Ytfddjbpfahjleaa
open Go.RowKit

/-- What is left of a number behind so many times. -/
def decF (a q : F) : Nat → F
  | 0 => a
  | k + 1 => fmul (decF a q k) q
def timB (z : Int) : Bool := decide (0 ≤ z) && decide (z ≤ 1000)
def keepB (a q : F) (z : Int) : Bool := amount a && (fge q (fb 0) && (fle q (fb 1065353216) && timB z))
def decN (n : N) (q : F) (k : Nat) : N := { n with s := updL n.s (fun c => decF (n.s c) q k) (cellsTo n.g.wide n.g.high 64) }
def decR (n : N) (q : F) (z : Int) : N × Int := if okB n then (if keepB (fb 0) q z then (decN n q z.toNat, 0) else (B0.n, 2)) else (B0.n, 1)
theorem keepB_time {a q : F} {z : Int} (h : keepB a q z = true) : 0 ≤ z ∧ z ≤ 1000 := by
  unfold keepB timB at h
  simp only [Bool.and_eq_true, decide_eq_true_eq] at h
  exact h.2.2.2
def DecRel (a q : F) (z : Int) (w : World) (v0 v8 : Value) (wr : World) : Prop :=
  ∃ j r : Nat, (j : Int) ≤ z ∧ v8 = .int .i64 j ∧ v0 = .float .f32 r ∧ Is r (decF a q j) ∧ Below w.heap.size w wr
theorem updL_same {f d : Nat → F} {l : List Nat} (hl : l.Nodup) {j c : Nat} (hc : l[j]? = some c) : updL f d (l.take j) c = f c := updL_out (not_take hl hc)
theorem cellsTo_out {W H : Int} {k : Nat} : k ∉ cellsTo W H k := fun h => Nat.lt_irrefl _ (cellsTo_lt h)

set_option maxRecDepth 100000 in
set_option maxHeartbeats 800000 in
theorem decayed_any (a q : Nat) (z : Int) (w : World) (z0 : 0 ≤ z) (z1 : z ≤ 1000) :
    Calls Try.prog 70 #[.float .f32 a, .float .f32 q, .int .i64 z] w (RetF (decF (fb a) (fb q) z.toNat) w) := by
  go_enter Try.func70, Try.ntmps70
  go_wp2_with fail
  go_loopw [0, 8] (fun v0 v8 wr => DecRel (fb a) (fb q) z w v0 v8 wr) (fun _ v8 _ => z.toNat - (intOf v8).toNat)
  case atStart => exact ⟨0, a, by omega, rfl, rfl, rfl, Below.refl _ _⟩
  case round =>
    obtain ⟨j, r0, hj, rfl, rfl, hr0, hB⟩ := hrel
    have HR0 := Lib.hid hr0
    have HBr := Lib.hid hB
    clear hr0 hB
    by_cases hlt : (j : Int) < z
    · go_wp2_with (first | ((with_reducible refine wpList_gate ?_); refine wpList_arith _ _ rfl rfl rfl ?_; intro r n hr))
      go_roundw
      case rel => exact ⟨j + 1, _, by omega, by go_num, rfl, hr.op HR0.out rfl, below_drawn HBr.out _⟩
      case measure => simp [intOf]; omega
    · obtain rfl : z = j := by omega
      go_wp2_with fail
      go_ret
      exact ⟨_, rfl, HR0.out, HBr.out⟩

set_option maxRecDepth 100000 in
set_option maxHeartbeats 800000 in
theorem l05Decay_any (a q : Nat) (z : Int) (w : World) (z0 : 0 ≤ z) (z1 : z ≤ 1000) :
    Calls Try.prog 68 #[.float .f32 a, .float .f32 q, .int .i64 z] w (RetF (decF (fb a) (fb q) z.toNat) w) := by
  go_enter Try.func68, Try.ntmps68
  go_wp2_with fail
  go_loopw [0, 7] (fun v0 v8 wr => DecRel (fb a) (fb q) z w v0 v8 wr) (fun _ v8 _ => z.toNat - (intOf v8).toNat)
  case atStart => exact ⟨0, a, by omega, rfl, rfl, rfl, Below.refl _ _⟩
  case round =>
    obtain ⟨j, r0, hj, rfl, rfl, hr0, hB⟩ := hrel
    have HR0 := Lib.hid hr0
    have HBr := Lib.hid hB
    clear hr0 hB
    by_cases hlt : (j : Int) < z
    · go_wp2_with (first | ((with_reducible refine wpList_gate ?_); refine wpList_arith _ _ rfl rfl rfl ?_; intro r n hr))
      go_roundw
      case rel => exact ⟨j + 1, _, by omega, by go_num, rfl, hr.op HR0.out rfl, below_drawn HBr.out _⟩
      case measure => simp [intOf]; omega
    · obtain rfl : z = j := by omega
      go_wp2_with fail
      go_ret
      exact ⟨_, rfl, HR0.out, HBr.out⟩

set_option maxRecDepth 100000 in
set_option maxHeartbeats 1600000 in
theorem decayOk_any (a q : Nat) (z : Int) (w : World) :
    Calls Try.prog 69 #[.float .f32 a, .float .f32 q, .int .i64 z] w (RetB (keepB (fb a) (fb q) z) w) := by
  have hgt' := order_gt
  have hlt' := order_lt
  have heq' := order_eq
  obtain ⟨tb, htb⟩ : ∃ tb, timB z = tb := ⟨_, rfl⟩
  have HT : Hid ((decide (0 ≤ z) && decide (z ≤ 1000)) = tb) := htb
  have HT2 := Lib.hid htb
  clear htb
  cases ha : amount (fb a)
  · have HA := Lib.hid ha
    clear ha
    have HW : Hid (keepB (fb a) (fb q) z = false) := by show _ = _; unfold keepB fge fle; rw [HA.out]; simp
    go_enter Try.func69, Try.ntmps69
    go_wp2_with fail
    refine (isAmount_any a w).mono ?_
    rw [HA.out]
    rintro e w1 ⟨rfl, hb1⟩
    have HB := Lib.hid hb1
    clear hb1
    go_wp2_with fail
    go_ret
    exact ⟨ret_bool (by rw [HW.out]), HB.out⟩
  have HA := Lib.hid ha
  clear ha
  cases hg : fgt (fb q) (fb 0)
  · cases hg2 : feq (fb q) (fb 0)
    · have HW : Hid (keepB (fb a) (fb q) z = false) := by show _ = _; unfold keepB fge fle; rw [HA.out, hg, hg2]; simp
      go_enter Try.func69, Try.ntmps69
      go_wp2_with fail
      refine (isAmount_any a w).mono ?_
      rw [HA.out]
      rintro e w1 ⟨rfl, hb1⟩
      have HB := Lib.hid hb1
      clear hb1
      go_wp2_with fail
      go_ret
      exact ⟨ret_bool (by rw [HW.out]), HB.out⟩
    · cases hl : flt (fb q) (fb 1065353216)
      · cases hl2 : feq (fb q) (fb 1065353216)
        · have HW : Hid (keepB (fb a) (fb q) z = false) := by show _ = _; unfold keepB fge fle; rw [HA.out, hg, hg2, hl, hl2]; simp
          go_enter Try.func69, Try.ntmps69
          go_wp2_with fail
          refine (isAmount_any a w).mono ?_
          rw [HA.out]
          rintro e w1 ⟨rfl, hb1⟩
          have HB := Lib.hid hb1
          clear hb1
          go_wp2_with fail
          go_ret
          exact ⟨ret_bool (by rw [HW.out]), HB.out⟩
        · have HW : Hid (keepB (fb a) (fb q) z = tb) := by show _ = _; unfold keepB fge fle; rw [HA.out, hg, hg2, hl, hl2, HT2.out]; simp
          go_enter Try.func69, Try.ntmps69
          go_wp2_with fail
          refine (isAmount_any a w).mono ?_
          rw [HA.out]
          rintro e w1 ⟨rfl, hb1⟩
          have HB := Lib.hid hb1
          clear hb1
          go_wp2_with (go_at_call 73; refine (isTimes_any z _).mono ?_; rw [HT.out]; rintro e w' ⟨rfl, rfl⟩)
          go_ret
          exact ⟨ret_bool (by rw [HW.out]), HB.out⟩
      · have HW : Hid (keepB (fb a) (fb q) z = tb) := by show _ = _; unfold keepB fge fle; rw [HA.out, hg, hg2, hl, HT2.out]; simp
        go_enter Try.func69, Try.ntmps69
        go_wp2_with fail
        refine (isAmount_any a w).mono ?_
        rw [HA.out]
        rintro e w1 ⟨rfl, hb1⟩
        have HB := Lib.hid hb1
        clear hb1
        go_wp2_with (go_at_call 73; refine (isTimes_any z _).mono ?_; rw [HT.out]; rintro e w' ⟨rfl, rfl⟩)
        go_ret
        exact ⟨ret_bool (by rw [HW.out]), HB.out⟩
  · cases hl : flt (fb q) (fb 1065353216)
    · cases hl2 : feq (fb q) (fb 1065353216)
      · have HW : Hid (keepB (fb a) (fb q) z = false) := by show _ = _; unfold keepB fge fle; rw [HA.out, hg, hl, hl2]; simp
        go_enter Try.func69, Try.ntmps69
        go_wp2_with fail
        refine (isAmount_any a w).mono ?_
        rw [HA.out]
        rintro e w1 ⟨rfl, hb1⟩
        have HB := Lib.hid hb1
        clear hb1
        go_wp2_with fail
        go_ret
        exact ⟨ret_bool (by rw [HW.out]), HB.out⟩
      · have HW : Hid (keepB (fb a) (fb q) z = tb) := by show _ = _; unfold keepB fge fle; rw [HA.out, hg, hl, hl2, HT2.out]; simp
        go_enter Try.func69, Try.ntmps69
        go_wp2_with fail
        refine (isAmount_any a w).mono ?_
        rw [HA.out]
        rintro e w1 ⟨rfl, hb1⟩
        have HB := Lib.hid hb1
        clear hb1
        go_wp2_with (go_at_call 73; refine (isTimes_any z _).mono ?_; rw [HT.out]; rintro e w' ⟨rfl, rfl⟩)
        go_ret
        exact ⟨ret_bool (by rw [HW.out]), HB.out⟩
    · have HW : Hid (keepB (fb a) (fb q) z = tb) := by show _ = _; unfold keepB fge fle; rw [HA.out, hg, hl, HT2.out]; simp
      go_enter Try.func69, Try.ntmps69
      go_wp2_with fail
      refine (isAmount_any a w).mono ?_
      rw [HA.out]
      rintro e w1 ⟨rfl, hb1⟩
      have HB := Lib.hid hb1
      clear hb1
      go_wp2_with (go_at_call 73; refine (isTimes_any z _).mono ?_; rw [HT.out]; rintro e w' ⟨rfl, rfl⟩)
      go_ret
      exact ⟨ret_bool (by rw [HW.out]), HB.out⟩

set_option maxRecDepth 100000 in
set_option maxHeartbeats 1600000 in
theorem l05Keep_any (a q : Nat) (z : Int) (w : World) :
    Calls Try.prog 67 #[.float .f32 a, .float .f32 q, .int .i64 z] w (RetB (keepB (fb a) (fb q) z) w) := by
  have hgt' := order_gt
  have hlt' := order_lt
  have heq' := order_eq
  obtain ⟨tb, htb⟩ : ∃ tb, timB z = tb := ⟨_, rfl⟩
  have HT : Hid ((decide (0 ≤ z) && decide (z ≤ 1000)) = tb) := htb
  have HT2 := Lib.hid htb
  clear htb
  cases hp : plain (fb a)
  · have HP := Lib.hid hp
    have HA : Hid (amount (fb a) = false) := by show _ = _; unfold amount; rw [hp]; rfl
    clear hp
    have HW : Hid (keepB (fb a) (fb q) z = false) := by show _ = _; unfold keepB fge fle; rw [HA.out]; simp
    go_enter Try.func67, Try.ntmps67
    go_wp2_with fail
    refine (l01Plain_any a w).mono ?_
    rw [HP.out]
    rintro e w1 ⟨rfl, hb1⟩
    have HB := Lib.hid hb1
    clear hb1
    go_wp2_with fail
    go_ret
    exact ⟨ret_bool (by rw [HW.out]), HB.out⟩
  have HP := Lib.hid hp
  have HPT := hp
  clear hp
  have hfa : amount (fb a) = fge (fb a) (fb 0) := by unfold amount; rw [HPT, fb0]; rfl
  have HFA := Lib.hid hfa
  clear hfa HPT
  obtain ⟨d1, hd1⟩ : ∃ d, fgt (fb a) (fb 0) = d := ⟨_, rfl⟩
  obtain ⟨d2, hd2⟩ : ∃ d, feq (fb a) (fb 0) = d := ⟨_, rfl⟩
  have HAD : Hid (amount (fb a) = (d1 || d2)) := by show _ = _; rw [HFA.out]; unfold fge; rw [hd1, hd2]
  obtain ⟨am, ham⟩ : ∃ am, (d1 || d2) = am := ⟨_, rfl⟩
  have HA : Hid (amount (fb a) = am) := by show _ = _; rw [HAD.out, ham]
  clear HAD HFA
  cases am
  · obtain ⟨rfl, rfl⟩ : d1 = false ∧ d2 = false := by cases d1 <;> cases d2 <;> simp_all
    have HW : Hid (keepB (fb a) (fb q) z = false) := by show _ = _; unfold keepB fge fle; rw [HA.out]; simp
    go_enter Try.func67, Try.ntmps67
    go_wp2_with fail
    refine (l01Plain_any a w).mono ?_
    rw [HP.out]
    rintro e w1 ⟨rfl, hb1⟩
    have HB := Lib.hid hb1
    clear hb1
    go_wp2_with fail
    go_ret
    exact ⟨ret_bool (by rw [HW.out]), HB.out⟩
  have hcs : (d1 = true) ∨ (d1 = false ∧ d2 = true) := by cases d1 <;> cases d2 <;> simp_all
  clear ham
  rcases hcs with rfl | ⟨rfl, rfl⟩
  · cases hg : fgt (fb q) (fb 0)
    · cases hg2 : feq (fb q) (fb 0)
      · have HW : Hid (keepB (fb a) (fb q) z = false) := by show _ = _; unfold keepB fge fle; rw [HA.out, hg, hg2]; simp
        go_enter Try.func67, Try.ntmps67
        go_wp2_with fail
        refine (l01Plain_any a w).mono ?_
        rw [HP.out]
        rintro e w1 ⟨rfl, hb1⟩
        have HB := Lib.hid hb1
        clear hb1
        go_wp2_with fail
        go_ret
        exact ⟨ret_bool (by rw [HW.out]), HB.out⟩
      · cases hl : flt (fb q) (fb 1065353216)
        · cases hl2 : feq (fb q) (fb 1065353216)
          · have HW : Hid (keepB (fb a) (fb q) z = false) := by show _ = _; unfold keepB fge fle; rw [HA.out, hg, hg2, hl, hl2]; simp
            go_enter Try.func67, Try.ntmps67
            go_wp2_with fail
            refine (l01Plain_any a w).mono ?_
            rw [HP.out]
            rintro e w1 ⟨rfl, hb1⟩
            have HB := Lib.hid hb1
            clear hb1
            go_wp2_with fail
            go_ret
            exact ⟨ret_bool (by rw [HW.out]), HB.out⟩
          · have HW : Hid (keepB (fb a) (fb q) z = tb) := by show _ = _; unfold keepB fge fle; rw [HA.out, hg, hg2, hl, hl2, HT2.out]; simp
            go_enter Try.func67, Try.ntmps67
            go_wp2_with fail
            refine (l01Plain_any a w).mono ?_
            rw [HP.out]
            rintro e w1 ⟨rfl, hb1⟩
            have HB := Lib.hid hb1
            clear hb1
            go_wp2_with (go_at_call 71; refine (l00In_any z 0 1000 _).mono ?_; rw [HT.out]; rintro e w' ⟨rfl, rfl⟩)
            go_ret
            exact ⟨ret_bool (by rw [HW.out]), HB.out⟩
        · have HW : Hid (keepB (fb a) (fb q) z = tb) := by show _ = _; unfold keepB fge fle; rw [HA.out, hg, hg2, hl, HT2.out]; simp
          go_enter Try.func67, Try.ntmps67
          go_wp2_with fail
          refine (l01Plain_any a w).mono ?_
          rw [HP.out]
          rintro e w1 ⟨rfl, hb1⟩
          have HB := Lib.hid hb1
          clear hb1
          go_wp2_with (go_at_call 71; refine (l00In_any z 0 1000 _).mono ?_; rw [HT.out]; rintro e w' ⟨rfl, rfl⟩)
          go_ret
          exact ⟨ret_bool (by rw [HW.out]), HB.out⟩
    · cases hl : flt (fb q) (fb 1065353216)
      · cases hl2 : feq (fb q) (fb 1065353216)
        · have HW : Hid (keepB (fb a) (fb q) z = false) := by show _ = _; unfold keepB fge fle; rw [HA.out, hg, hl, hl2]; simp
          go_enter Try.func67, Try.ntmps67
          go_wp2_with fail
          refine (l01Plain_any a w).mono ?_
          rw [HP.out]
          rintro e w1 ⟨rfl, hb1⟩
          have HB := Lib.hid hb1
          clear hb1
          go_wp2_with fail
          go_ret
          exact ⟨ret_bool (by rw [HW.out]), HB.out⟩
        · have HW : Hid (keepB (fb a) (fb q) z = tb) := by show _ = _; unfold keepB fge fle; rw [HA.out, hg, hl, hl2, HT2.out]; simp
          go_enter Try.func67, Try.ntmps67
          go_wp2_with fail
          refine (l01Plain_any a w).mono ?_
          rw [HP.out]
          rintro e w1 ⟨rfl, hb1⟩
          have HB := Lib.hid hb1
          clear hb1
          go_wp2_with (go_at_call 71; refine (l00In_any z 0 1000 _).mono ?_; rw [HT.out]; rintro e w' ⟨rfl, rfl⟩)
          go_ret
          exact ⟨ret_bool (by rw [HW.out]), HB.out⟩
      · have HW : Hid (keepB (fb a) (fb q) z = tb) := by show _ = _; unfold keepB fge fle; rw [HA.out, hg, hl, HT2.out]; simp
        go_enter Try.func67, Try.ntmps67
        go_wp2_with fail
        refine (l01Plain_any a w).mono ?_
        rw [HP.out]
        rintro e w1 ⟨rfl, hb1⟩
        have HB := Lib.hid hb1
        clear hb1
        go_wp2_with (go_at_call 71; refine (l00In_any z 0 1000 _).mono ?_; rw [HT.out]; rintro e w' ⟨rfl, rfl⟩)
        go_ret
        exact ⟨ret_bool (by rw [HW.out]), HB.out⟩
  · cases hg : fgt (fb q) (fb 0)
    · cases hg2 : feq (fb q) (fb 0)
      · have HW : Hid (keepB (fb a) (fb q) z = false) := by show _ = _; unfold keepB fge fle; rw [HA.out, hg, hg2]; simp
        go_enter Try.func67, Try.ntmps67
        go_wp2_with fail
        refine (l01Plain_any a w).mono ?_
        rw [HP.out]
        rintro e w1 ⟨rfl, hb1⟩
        have HB := Lib.hid hb1
        clear hb1
        go_wp2_with fail
        go_ret
        exact ⟨ret_bool (by rw [HW.out]), HB.out⟩
      · cases hl : flt (fb q) (fb 1065353216)
        · cases hl2 : feq (fb q) (fb 1065353216)
          · have HW : Hid (keepB (fb a) (fb q) z = false) := by show _ = _; unfold keepB fge fle; rw [HA.out, hg, hg2, hl, hl2]; simp
            go_enter Try.func67, Try.ntmps67
            go_wp2_with fail
            refine (l01Plain_any a w).mono ?_
            rw [HP.out]
            rintro e w1 ⟨rfl, hb1⟩
            have HB := Lib.hid hb1
            clear hb1
            go_wp2_with fail
            go_ret
            exact ⟨ret_bool (by rw [HW.out]), HB.out⟩
          · have HW : Hid (keepB (fb a) (fb q) z = tb) := by show _ = _; unfold keepB fge fle; rw [HA.out, hg, hg2, hl, hl2, HT2.out]; simp
            go_enter Try.func67, Try.ntmps67
            go_wp2_with fail
            refine (l01Plain_any a w).mono ?_
            rw [HP.out]
            rintro e w1 ⟨rfl, hb1⟩
            have HB := Lib.hid hb1
            clear hb1
            go_wp2_with (go_at_call 71; refine (l00In_any z 0 1000 _).mono ?_; rw [HT.out]; rintro e w' ⟨rfl, rfl⟩)
            go_ret
            exact ⟨ret_bool (by rw [HW.out]), HB.out⟩
        · have HW : Hid (keepB (fb a) (fb q) z = tb) := by show _ = _; unfold keepB fge fle; rw [HA.out, hg, hg2, hl, HT2.out]; simp
          go_enter Try.func67, Try.ntmps67
          go_wp2_with fail
          refine (l01Plain_any a w).mono ?_
          rw [HP.out]
          rintro e w1 ⟨rfl, hb1⟩
          have HB := Lib.hid hb1
          clear hb1
          go_wp2_with (go_at_call 71; refine (l00In_any z 0 1000 _).mono ?_; rw [HT.out]; rintro e w' ⟨rfl, rfl⟩)
          go_ret
          exact ⟨ret_bool (by rw [HW.out]), HB.out⟩
    · cases hl : flt (fb q) (fb 1065353216)
      · cases hl2 : feq (fb q) (fb 1065353216)
        · have HW : Hid (keepB (fb a) (fb q) z = false) := by show _ = _; unfold keepB fge fle; rw [HA.out, hg, hl, hl2]; simp
          go_enter Try.func67, Try.ntmps67
          go_wp2_with fail
          refine (l01Plain_any a w).mono ?_
          rw [HP.out]
          rintro e w1 ⟨rfl, hb1⟩
          have HB := Lib.hid hb1
          clear hb1
          go_wp2_with fail
          go_ret
          exact ⟨ret_bool (by rw [HW.out]), HB.out⟩
        · have HW : Hid (keepB (fb a) (fb q) z = tb) := by show _ = _; unfold keepB fge fle; rw [HA.out, hg, hl, hl2, HT2.out]; simp
          go_enter Try.func67, Try.ntmps67
          go_wp2_with fail
          refine (l01Plain_any a w).mono ?_
          rw [HP.out]
          rintro e w1 ⟨rfl, hb1⟩
          have HB := Lib.hid hb1
          clear hb1
          go_wp2_with (go_at_call 71; refine (l00In_any z 0 1000 _).mono ?_; rw [HT.out]; rintro e w' ⟨rfl, rfl⟩)
          go_ret
          exact ⟨ret_bool (by rw [HW.out]), HB.out⟩
      · have HW : Hid (keepB (fb a) (fb q) z = tb) := by show _ = _; unfold keepB fge fle; rw [HA.out, hg, hl, HT2.out]; simp
        go_enter Try.func67, Try.ntmps67
        go_wp2_with fail
        refine (l01Plain_any a w).mono ?_
        rw [HP.out]
        rintro e w1 ⟨rfl, hb1⟩
        have HB := Lib.hid hb1
        clear hb1
        go_wp2_with (go_at_call 71; refine (l00In_any z 0 1000 _).mono ?_; rw [HT.out]; rintro e w' ⟨rfl, rfl⟩)
        go_ret
        exact ⟨ret_bool (by rw [HW.out]), HB.out⟩

set_option maxRecDepth 100000 in
set_option maxHeartbeats 3200000 in
theorem DecaySalt_any (x : Br) (t : Nat) (z : Int) (w : World) (hr : x.gr.Rng) (hx : x.gr.Fx) :
    Calls Try.prog 35 #[.agg (arrB x), .float .f32 t, .int .i64 z] w (RetBC' (decR x.n (fb t) z) w) := by
  cases hok : okB x.n
  · have HW : Hid (decR x.n (fb t) z = (B0.n, 1)) := by show _ = _; unfold decR; rw [hok]; rfl
    have HOK := Lib.hid hok
    clear hok
    go_enter Try.func35, Try.ntmps35
    go_wp2_with (with_reducible refine wpList_box rfl ?_)
    intro b w1 hB1 hB2 hB3 hB4
    go_wp2_with (with_reducible refine wpList_new newB ?_)
    intro R w2 hR1 hR2 hR3 hR4
    have hX2 := hB3.later hR4
    have hbR : b < R := by have := hB4.size; omega
    have HB2 := Lib.hid (hB4.trans (hR4.mono hB4.size))
    have hwR : w.heap.size ≤ R := by have := hB4.size; omega
    clear hB3 hB4 hR4
    go_wp2_with ((with_reducible refine wpList_getB hX2 ?_ ?_); rfl)
    refine (ValidBrine_any x w2 hr hx).mono ?_
    rw [HOK.out]
    rintro e w3 ⟨rfl, hb3⟩
    have hX3 := hX2.later hb3
    have hR3' := hR3.later hb3
    have HB3 := Lib.hid (HB2.out.trans (hb3.mono HB2.out.size))
    clear hb3 hX2 hR3
    go_wp2_with (first | (with_reducible refine wpList_zero (zeroB _) ?_) | ((with_reducible refine wpList_putB (x := B0) hR3' ?_ ?_ ?_); rfl; rfl))
    intro w20 s20 b20 k20
    go_wp2_with fail
    refine ret_cell2 rfl rfl (loadB b20) rfl ⟨B0, by rw [HW.out]; rfl, by rw [HW.out], ?_⟩
    exact below_grown HB3.out k20 HB3.out.size hwR
  cases hk : keepB (fb 0) (fb t) z
  · have HW : Hid (decR x.n (fb t) z = (B0.n, 2)) := by show _ = _; unfold decR; rw [hok, hk]; rfl
    have HOK := Lib.hid hok
    have HK := Lib.hid hk
    clear hok hk
    go_enter Try.func35, Try.ntmps35
    go_wp2_with (with_reducible refine wpList_box rfl ?_)
    intro b w1 hB1 hB2 hB3 hB4
    go_wp2_with (with_reducible refine wpList_new newB ?_)
    intro R w2 hR1 hR2 hR3 hR4
    have hX2 := hB3.later hR4
    have hbR : b < R := by have := hB4.size; omega
    have HB2 := Lib.hid (hB4.trans (hR4.mono hB4.size))
    have hwR : w.heap.size ≤ R := by have := hB4.size; omega
    clear hB3 hB4 hR4
    go_wp2_with ((with_reducible refine wpList_getB hX2 ?_ ?_); rfl)
    refine (ValidBrine_any x w2 hr hx).mono ?_
    rw [HOK.out]
    rintro e w3 ⟨rfl, hb3⟩
    have hX3 := hX2.later hb3
    have hR3' := hR3.later hb3
    have HB3 := Lib.hid (HB2.out.trans (hb3.mono HB2.out.size))
    clear hb3 hX2 hR3
    go_wp2_with fail
    refine (decayOk_any 0 t z w3).mono ?_
    rw [HK.out]
    rintro e w4 ⟨rfl, hb4⟩
    have hX4 := hX3.later hb4
    have hR4 := hR3'.later hb4
    have HB4 := Lib.hid (HB3.out.trans (hb4.mono HB3.out.size))
    clear hb4 hX3 hR3'
    go_wp2_with (first | (with_reducible refine wpList_zero (zeroB _) ?_) | ((with_reducible refine wpList_putB (x := B0) hR4 ?_ ?_ ?_); rfl; rfl))
    intro w20 s20 b20 k20
    go_wp2_with fail
    refine ret_cell2 rfl rfl (loadB b20) rfl ⟨B0, by rw [HW.out]; rfl, by rw [HW.out], ?_⟩
    exact below_grown HB4.out k20 HB4.out.size hwR
  have HW : Hid (decR x.n (fb t) z = (decN x.n (fb t) z.toNat, 0)) := by show _ = _; unfold decR; rw [hok, hk]; rfl
  obtain ⟨z0, z1⟩ := keepB_time hk
  have HOK := Lib.hid hok
  have HK := Lib.hid hk
  clear hok hk
  go_enter Try.func35, Try.ntmps35
  go_wp2_with (with_reducible refine wpList_box rfl ?_)
  intro b w1 hB1 hB2 hB3 hB4
  go_wp2_with (with_reducible refine wpList_new newB ?_)
  intro R w2 hR1 hR2 hR3 hR4
  have hX2 := hB3.later hR4
  have hbR : b < R := by have := hB4.size; omega
  have HB2 := Lib.hid (hB4.trans (hR4.mono hB4.size))
  have hwR : w.heap.size ≤ R := by have := hB4.size; omega
  clear hB3 hB4 hR4
  go_wp2_with ((with_reducible refine wpList_getB hX2 ?_ ?_); rfl)
  refine (ValidBrine_any x w2 hr hx).mono ?_
  rw [HOK.out]
  rintro e w3 ⟨rfl, hb3⟩
  have hX3 := hX2.later hb3
  have hR3' := hR3.later hb3
  have HB3 := Lib.hid (HB2.out.trans (hb3.mono HB2.out.size))
  clear hb3 hX2 hR3
  go_wp2_with fail
  refine (decayOk_any 0 t z w3).mono ?_
  rw [HK.out]
  rintro e w4 ⟨rfl, hb4⟩
  have hX4 := hX3.later hb4
  have hR4 := hR3'.later hb4
  have HB4 := Lib.hid (HB3.out.trans (hb4.mono HB3.out.size))
  clear hb4 hX3 hR3'
  go_wp2_with fail
  refine (cells_any b 0 x.gr w4 hr (BAt.of_blk hX4).g).mono ?_
  rintro e w5 ⟨v, rfl, hown, hb5⟩
  obtain ⟨aL, cap, rfl, hL⟩ := list_form hown
  have HL := Lib.hid hL
  have HX5 := Lib.hid (hX4.later hb5)
  have HR5 := Lib.hid (hR4.later hb5)
  have HB5 := Lib.hid (HB4.out.trans (hb5.mono HB4.out.size))
  have hlen := cellsTo_length x.gr.wide x.gr.high 64
  have hbl : b < w4.heap.size := hX4.lt
  have hb_ : w.heap.size ≤ b := hB1
  clear hL hown hb5 hX4 hR4
  go_wp2_with fail
  go_loopw [24] (fun vj wr => UpdRel x (fun c => decF (fm x.s c) (fb t) z.toNat) (fun j => (cellsTo x.gr.wide x.gr.high 64).take j) (cellsTo x.gr.wide x.gr.high 64).length w5 b vj wr) (fun vj _ => (cellsTo x.gr.wide x.gr.high 64).length - (intOf vj).toNat)
  case atStart => exact ⟨0, x.s, by omega, rfl, rfl, HX5.out, grown_refl _ _⟩
  case round =>
    obtain ⟨j, s', hj, rfl, hfs, hO, hgr⟩ := hrel
    have HGR := Lib.hid hgr
    have HFS := Lib.hid hfs
    have HO := Lib.hid hO
    clear hgr hfs hO
    by_cases hlt : j < (cellsTo x.gr.wide x.gr.high 64).length
    · obtain ⟨c, hc⟩ : ∃ c, (cellsTo x.gr.wide x.gr.high 64)[j]? = some c := ⟨_, List.getElem?_eq_getElem hlt⟩
      have hc64 : c < 64 := cellsTo_lt (List.mem_of_getElem? hc)
      have hj64 : j < 64 := by omega
      obtain ⟨gq, rfl, hq1, hq2, hq3⟩ := HL.out j c hc
      have hcell := cell_grown hq3 HGR.out (by omega)
      have HC := Lib.hid hc
      have HS : Hid (fb (s' c) = fm x.s c) := by
        show _ = _
        rw [← fm_of hc64, HFS.out]; exact updL_same (cells_nodup _ _ _) hc
      have j1 : (j : Int) < ((cellsTo x.gr.wide x.gr.high 64).length : Int) := by omega
      have c1 : (c : Int) < 64 := by omega
      have q2 := (BAt.of_blk HO.out).s hc64
      clear hq3 hc
      go_wp2_with fail
      refine (decayed_any (s' c) t z wr z0 z1).mono ?_
      rintro e w6 ⟨r6, rfl, hr6, hb6⟩
      have HV : Hid (fb r6 = decF (fm x.s c) (fb t) z.toNat) := by show _ = _; rw [hr6.out, HS.out]
      have hO6 := HO.out.later hb6
      have HG6 := Lib.hid (grown_trans HGR.out (grown_below hb6))
      clear hr6 hb6 q2
      go_wp2_with ((with_reducible refine wpList_gateS ?_); refine wpList_setS hO6 hc64 rfl rfl ?_)
      intro w7 s7 b7 k7
      have H7 := Lib.hid b7
      have HG7 := Lib.hid (grown_trans HG6.out k7)
      clear b7 k7 hO6
      go_wp2_with fail
      go_roundw
      case rel =>
        refine ⟨j + 1, upd s' c r6, by omega, by go_num, ?_, H7.out, HG7.out⟩
        dsimp only
        rw [take_more HC.out, updL_snoc, fm_upd hc64, HFS.out, HV.out]
      case measure => simp [intOf]; omega
    · have hjn : j = (cellsTo x.gr.wide x.gr.high 64).length := by omega
      have j1 : ¬ (j : Int) < ((cellsTo x.gr.wide x.gr.high 64).length : Int) := by omega
      have HN : Hid (({ x with s := s' } : Br).n = decN x.n (fb t) z.toNat) := by
        show _ = _
        have := HFS.out
        dsimp only at this
        rw [List.take_of_length_le (Nat.le_of_eq hjn.symm)] at this
        exact n_of this
      have HBw := Lib.hid (below_grown HB5.out HGR.out HB5.out.size hb_)
      have hRw := HR5.out.grown HGR.out (by omega)
      clear hjn
      go_wp2_with (first | ((with_reducible refine wpList_getB HO.out ?_ ?_); rfl) | ((with_reducible refine wpList_putB (x := { x with s := s' }) hRw ?_ ?_ ?_); rfl; rfl))
      intro w20 s20 b20 k20
      go_wp2_with fail
      refine ret_cell2 rfl rfl (loadB b20) rfl ⟨{ x with s := s' }, by rw [HW.out]; rfl, by rw [HW.out]; exact HN.out, ?_⟩
      exact below_grown HBw.out k20 HBw.out.size hwR

set_option maxRecDepth 100000 in
set_option maxHeartbeats 3200000 in
theorem specDecaySalt_any (x : Br) (t : Nat) (z : Int) (w : World) (hr : x.gr.Rng) (hx : x.gr.Fx) :
    Calls Try.prog 34 #[.agg (arrB x), .float .f32 t, .int .i64 z] w (RetBC' (decR x.n (fb t) z) w) := by
  cases hok : okB x.n
  · have HW : Hid (decR x.n (fb t) z = (B0.n, 1)) := by show _ = _; unfold decR; rw [hok]; rfl
    have HOK := Lib.hid hok
    clear hok
    go_enter Try.func34, Try.ntmps34
    go_wp2_with (with_reducible refine wpList_box rfl ?_)
    intro b w1 hB1 hB2 hB3 hB4
    go_wp2_with (with_reducible refine wpList_new newB ?_)
    intro R w2 hR1 hR2 hR3 hR4
    have hX2 := hB3.later hR4
    have hbR : b < R := by have := hB4.size; omega
    have HB2 := Lib.hid (hB4.trans (hR4.mono hB4.size))
    have hwR : w.heap.size ≤ R := by have := hB4.size; omega
    clear hB3 hB4 hR4
    go_wp2_with fail
    refine (l05Ok_any b x w2 hr hx (BAt.of_blk hX2)).mono ?_
    rw [HOK.out]
    rintro e w3 ⟨rfl, hb3⟩
    have hX3 := hX2.later hb3
    have hR3' := hR3.later hb3
    have HB3 := Lib.hid (HB2.out.trans (hb3.mono HB2.out.size))
    clear hb3 hX2 hR3
    go_wp2_with (first | (with_reducible refine wpList_zero (zeroB _) ?_) | ((with_reducible refine wpList_putB (x := B0) hR3' ?_ ?_ ?_); rfl; rfl))
    intro w20 s20 b20 k20
    go_wp2_with fail
    refine ret_cell2 rfl rfl (loadB b20) rfl ⟨B0, by rw [HW.out]; rfl, by rw [HW.out], ?_⟩
    exact below_grown HB3.out k20 HB3.out.size hwR
  cases hk : keepB (fb 0) (fb t) z
  · have HW : Hid (decR x.n (fb t) z = (B0.n, 2)) := by show _ = _; unfold decR; rw [hok, hk]; rfl
    have HOK := Lib.hid hok
    have HK := Lib.hid hk
    clear hok hk
    go_enter Try.func34, Try.ntmps34
    go_wp2_with (with_reducible refine wpList_box rfl ?_)
    intro b w1 hB1 hB2 hB3 hB4
    go_wp2_with (with_reducible refine wpList_new newB ?_)
    intro R w2 hR1 hR2 hR3 hR4
    have hX2 := hB3.later hR4
    have hbR : b < R := by have := hB4.size; omega
    have HB2 := Lib.hid (hB4.trans (hR4.mono hB4.size))
    have hwR : w.heap.size ≤ R := by have := hB4.size; omega
    clear hB3 hB4 hR4
    go_wp2_with fail
    refine (l05Ok_any b x w2 hr hx (BAt.of_blk hX2)).mono ?_
    rw [HOK.out]
    rintro e w3 ⟨rfl, hb3⟩
    have hX3 := hX2.later hb3
    have hR3' := hR3.later hb3
    have HB3 := Lib.hid (HB2.out.trans (hb3.mono HB2.out.size))
    clear hb3 hX2 hR3
    go_wp2_with fail
    refine (l05Keep_any 0 t z w3).mono ?_
    rw [HK.out]
    rintro e w4 ⟨rfl, hb4⟩
    have hX4 := hX3.later hb4
    have hR4 := hR3'.later hb4
    have HB4 := Lib.hid (HB3.out.trans (hb4.mono HB3.out.size))
    clear hb4 hX3 hR3'
    go_wp2_with (first | (with_reducible refine wpList_zero (zeroB _) ?_) | ((with_reducible refine wpList_putB (x := B0) hR4 ?_ ?_ ?_); rfl; rfl))
    intro w20 s20 b20 k20
    go_wp2_with fail
    refine ret_cell2 rfl rfl (loadB b20) rfl ⟨B0, by rw [HW.out]; rfl, by rw [HW.out], ?_⟩
    exact below_grown HB4.out k20 HB4.out.size hwR
  have HW : Hid (decR x.n (fb t) z = (decN x.n (fb t) z.toNat, 0)) := by show _ = _; unfold decR; rw [hok, hk]; rfl
  obtain ⟨z0, z1⟩ := keepB_time hk
  have HOK := Lib.hid hok
  have HK := Lib.hid hk
  clear hok hk
  go_enter Try.func34, Try.ntmps34
  go_wp2_with (with_reducible refine wpList_box rfl ?_)
  intro b w1 hB1 hB2 hB3 hB4
  go_wp2_with (with_reducible refine wpList_new newB ?_)
  intro R w2 hR1 hR2 hR3 hR4
  have hX2 := hB3.later hR4
  have hbR : b < R := by have := hB4.size; omega
  have HB2 := Lib.hid (hB4.trans (hR4.mono hB4.size))
  have hwR : w.heap.size ≤ R := by have := hB4.size; omega
  clear hB3 hB4 hR4
  go_wp2_with fail
  refine (l05Ok_any b x w2 hr hx (BAt.of_blk hX2)).mono ?_
  rw [HOK.out]
  rintro e w3 ⟨rfl, hb3⟩
  have hX3 := hX2.later hb3
  have hR3' := hR3.later hb3
  have HB3 := Lib.hid (HB2.out.trans (hb3.mono HB2.out.size))
  clear hb3 hX2 hR3
  go_wp2_with fail
  refine (l05Keep_any 0 t z w3).mono ?_
  rw [HK.out]
  rintro e w4 ⟨rfl, hb4⟩
  have hX4 := hX3.later hb4
  have hR4 := hR3'.later hb4
  have HB4 := Lib.hid (HB3.out.trans (hb4.mono HB3.out.size))
  clear hb4 hX3 hR3'
  have HX5 := Lib.hid hX4
  have HR5 := Lib.hid hR4
  have hbl : b < w4.heap.size := hX4.lt
  have hb_ : w.heap.size ≤ b := hB1
  clear hX4 hR4
  go_wp2_with fail
  go_loopw [8] (fun vj wr => UpdRel x (fun c => decF (fm x.s c) (fb t) z.toNat) (fun j => cellsTo x.gr.wide x.gr.high j) 64 w4 b vj wr) (fun vj _ => 64 - (intOf vj).toNat)
  case atStart => exact ⟨0, x.s, by omega, rfl, rfl, HX5.out, grown_refl _ _⟩
  case round =>
    obtain ⟨k, s', hk, rfl, hfs, hO, hgr⟩ := hrel
    have HGR := Lib.hid hgr
    have HFS := Lib.hid hfs
    have HO := Lib.hid hO
    have HGA : Hid (GAt wr b 0 x.gr) := (BAt.of_blk hO).g
    clear hgr hfs hO
    by_cases hlt : k < 64
    · have k1 : (k : Int) < 64 := by omega
      cases hh : hasB x.gr.wide x.gr.high k
      · have HH := Lib.hid hh
        clear hh
        go_wp2_with (go_at_call 43; refine (l01Is_any b 0 k x.gr _ hlt hr HGA.out).mono ?_; rw [HH.out]; rintro e w' ⟨rfl, rfl⟩)
        go_roundw
        case rel => exact ⟨k + 1, s', by omega, by go_num, by dsimp only; rw [cellsTo_no HH.out]; exact HFS.out, HO.out, HGR.out⟩
        case measure => simp [intOf]; omega
      · have HH := Lib.hid hh
        have HS : Hid (fb (s' k) = fm x.s k) := by
          show _ = _
          rw [← fm_of hlt, HFS.out]; exact updL_out cellsTo_out
        have q2 := (BAt.of_blk HO.out).s hlt
        clear hh
        go_wp2_with (go_at_call 43; refine (l01Is_any b 0 k x.gr _ hlt hr HGA.out).mono ?_; rw [HH.out]; rintro e w' ⟨rfl, rfl⟩)
        refine (l05Decay_any (s' k) t z wr z0 z1).mono ?_
        rintro e w6 ⟨r6, rfl, hr6, hb6⟩
        have HV : Hid (fb r6 = decF (fm x.s k) (fb t) z.toNat) := by show _ = _; rw [hr6.out, HS.out]
        have hO6 := HO.out.later hb6
        have HG6 := Lib.hid (grown_trans HGR.out (grown_below hb6))
        clear hr6 hb6 q2
        go_wp2_with ((with_reducible refine wpList_gateS ?_); refine wpList_setS hO6 hlt rfl rfl ?_)
        intro w7 s7 b7 k7
        have H7 := Lib.hid b7
        have HG7 := Lib.hid (grown_trans HG6.out k7)
        clear b7 k7 hO6
        go_wp2_with fail
        go_roundw
        case rel =>
          refine ⟨k + 1, upd s' k r6, by omega, by go_num, ?_, H7.out, HG7.out⟩
          dsimp only
          rw [cellsTo_yes HH.out, updL_snoc, fm_upd hlt, HFS.out, HV.out]
        case measure => simp [intOf]; omega
    · obtain rfl : k = 64 := by omega
      have HN : Hid (({ x with s := s' } : Br).n = decN x.n (fb t) z.toNat) := n_of HFS.out
      have HBw := Lib.hid (below_grown HB4.out HGR.out HB4.out.size hb_)
      have hRw := HR5.out.grown HGR.out (by omega)
      go_wp2_with (first | ((with_reducible refine wpList_getB HO.out ?_ ?_); rfl) | ((with_reducible refine wpList_putB (x := { x with s := s' }) hRw ?_ ?_ ?_); rfl; rfl))
      intro w20 s20 b20 k20
      go_wp2_with fail
      refine ret_cell2 rfl rfl (loadB b20) rfl ⟨{ x with s := s' }, by rw [HW.out]; rfl, by rw [HW.out]; exact HN.out, ?_⟩
      exact below_grown HBw.out k20 HBw.out.size hwR

end Go.Proofs.Ytfddjbpfahjleaa
