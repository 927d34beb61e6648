/- Decimal: the reference's digits. -/
import Derived.Test.YtekemhibnokhcaaDoorDbld
import Derived.Lib.ItoaNum
import Derived.Deep.RegionHeld3
namespace Go.Proofs.YtekemhibnokhcaaDoor
open Go.RowKit

theorem below_dr {a w : World} (h : Below a.heap.size a w) : Below a.heap.size a w.drew := ⟨h.os, h.tape, h.output, h.size, h.block⟩
/-- The digits of a number, as a string. -/
def decS (n : Nat) : ByteArray := ⟨(Lib.decDigits n).toArray⟩
theorem dec_len : ∀ (k u : Nat), u < 10 ^ (k + 1) → (Lib.decDigits u).length ≤ k + 1
  | 0, u, h => by rw [Lib.decDigits, dif_pos (by simpa using h)]; exact Nat.le_refl _
  | k + 1, u, h => by
    rw [Lib.decDigits]
    split
    · simp
    · rw [List.length_append]
      have := dec_len k (u / 10) (by rw [Nat.pow_succ] at h; omega)
      simp only [List.length_cons, List.length_nil]
      omega
theorem decS_size {u : Nat} (h : u < 9223372036854775808) : (decS u).size ≤ 19 := by
  show (Lib.decDigits u).toArray.size ≤ 19
  rw [List.size_toArray]
  exact dec_len 18 u (Nat.lt_of_lt_of_le h (by decide))
theorem decS_more {n q : Nat} (h : ¬ n < 10) (hq : n / 10 = q) : decS q ++ ⟨[UInt8.ofNat (48 + n % 10)].toArray⟩ = decS n := by
  unfold decS
  rw [ByteArray.mk_append_mk, ← hq]
  conv => rhs; rw [Lib.decDigits, dif_neg h]

theorem conv_at (w : World) (B : Nat) (c : Int) (u : UInt8) (hu : (u.toNat : Int) = c) (h : w.cell? ⟨B, 0, none⟩ = some (.int .u8 c)) :
    (convert 55 9 (.slice (some ⟨B, 0, none⟩) 1 1)).run Tryd.prog w = .ok (.string ⟨[u].toArray⟩) w := by
  have u41 : Tryd.prog.underlying 55 = some (.slice 5) := by kernel_rfl
  have u5 : Tryd.prog.underlying 5 = some (.int .u8) := by kernel_rfl
  have u9 : Tryd.prog.underlying 9 = some .string := by kernel_rfl
  exact run_convert_bytes_back w 55 9 5 ⟨B, 0, none⟩ 1 [u] u41 u5 u9 (fun j hj => by
    have : j = 0 := by simpa using hj
    subst this
    have e0 : (([u] : List UInt8)[0].toNat : Int) = c := hu
    rw [e0]
    exact h)

set_option maxRecDepth 100000 in
set_option maxHeartbeats 800000 in
theorem Decimal_any : ∀ (n : Nat), n < 9223372036854775808 → ∀ w : World,
    Calls Tryd.prog 45 #[.int .i64 n] w fun e w' => e = .returned (.string (decS n)) ∧ Below w.heap.size w w' := by
  intro n
  induction n using Nat.strongRecOn with
  | _ n ih =>
  intro hn w
  by_cases hlt : n < 10
  · have h1 : ¬ (10 : Int) ≤ (n : Int) := by omega
    go_enter Tryd.func45, Tryd.ntmps45
    go_wp2_with fail
    have u41 : Tryd.prog.underlying 55 = some (.slice 5) := by kernel_rfl
    have u5 : Tryd.prog.underlying 5 = some (.int .u8) := by kernel_rfl
    have u9 : Tryd.prog.underlying 9 = some .string := by kernel_rfl
    have ec : ((UInt8.ofNat (48 + n)).toNat : Int) = 48 + (n : Int) := by rw [UInt8.toNat_ofNat']; omega
    have hcv : (convert 55 9 (.slice (some ⟨w.heap.size, 0, none⟩) 1 1)).run Tryd.prog (w.alloc (.cells #[.int .u8 (48 + (n : Int))] 5)) = .ok (.string ⟨[UInt8.ofNat (48 + n)].toArray⟩) (w.alloc (.cells #[.int .u8 (48 + (n : Int))] 5)) :=
      run_convert_bytes_back (w.alloc (.cells #[.int .u8 (48 + (n : Int))] 5)) 55 9 5 ⟨w.heap.size, 0, none⟩ 1 [UInt8.ofNat (48 + n)] u41 u5 u9 (fun j hj => by
        have : j = 0 := by simpa using hj
        subst this
        have e0 : (([UInt8.ofNat (48 + n)] : List UInt8)[0].toNat : Int) = 48 + (n : Int) := ec
        rw [e0]
        exact (Blk.new w #[.int .u8 (48 + (n : Int))] 5).at rfl)
    rw [hcv]
    simp only [Result.andThen]
    rw [Oper.upon_value]
    go_wp2_with fail
    go_ret
    have ed : Lib.decDigits n = [UInt8.ofNat (48 + n)] := by rw [Lib.decDigits, dif_pos hlt]
    exact ⟨by unfold decS; rw [ed]; simp [UInt8.ofNat_add], Below.alloc (Below.refl _ _) (Nat.le_refl _) _⟩
  · have h1 : (10 : Int) ≤ (n : Int) := by omega
    obtain ⟨q, hq⟩ : ∃ q : Nat, n / 10 = q := ⟨_, rfl⟩
    obtain ⟨c, hc⟩ : ∃ c : Int, 48 + (n : Int) % 10 = c := ⟨_, rfl⟩
    have f1 : IntKind.i64.wrap ((n : Int) / 10) = (q : Int) := by
      have e : (n : Int) / 10 = (q : Int) := by omega
      rw [e]; simp only [IntKind.wrap, IntKind.bits, IntKind.signed]; simp; omega
    have f2 : IntKind.i64.wrap (48 + (n : Int) % 10) = c := by rw [hc]; simp only [IntKind.wrap, IntKind.bits, IntKind.signed]; simp; omega
    have f2' : IntKind.i64.wrap (48 + (n : Int).tmod 10) = c := f2
    have f3 : IntKind.u8.wrap c = c := by simp only [IntKind.wrap, IntKind.bits, IntKind.signed]; simp; omega
    have IH := Lib.hid (ih q (by omega) (by omega))
    have HQ := Lib.hid hq
    have HU : Hid (((UInt8.ofNat (48 + n % 10)).toNat : Int) = c) := by show _ = _; rw [UInt8.toNat_ofNat']; omega
    have HCV : ∀ w' : World, (convert 55 9 (.slice (some ⟨w'.heap.size, 0, none⟩) 1 1)).run Tryd.prog (w'.alloc (.cells #[.int .u8 c] 5)) = .ok (.string ⟨[UInt8.ofNat (48 + n % 10)].toArray⟩) (w'.alloc (.cells #[.int .u8 c] 5)) :=
      fun w' => conv_at _ _ c _ HU.out ((Blk.new w' #[.int .u8 c] 5).at rfl)
    have HCV2 : ∀ w' : World, (convert 55 9 (.slice (some ⟨w'.heap.size, 0, none⟩) 1 1)).run Tryd.prog (w'.alloc (.cells #[.int .u8 c] 5)).drew = .ok (.string ⟨[UInt8.ofNat (48 + n % 10)].toArray⟩) (w'.alloc (.cells #[.int .u8 c] 5)).drew :=
      fun w' => conv_at _ _ c _ HU.out ((Blk.new w' #[.int .u8 c] 5).at rfl)
    have HCW : Hid (∀ (W w1 : World) (g : Nat), W.cell? ⟨g, 0, none⟩ = some (.int .u8 c) → Below W.heap.size W w1 → (convert 55 9 (.slice (some ⟨g, 0, none⟩) 1 1)).run Tryd.prog w1 = .ok (.string ⟨[UInt8.ofNat (48 + n % 10)].toArray⟩) w1) :=
      fun W w1 g hc hb => conv_at _ _ c _ HU.out (cell_below hb hc)
    have HL := decS_size (u := q) (by omega)
    have k1 : ¬ ((decS q).size + 1 > 9223372036854775807) := by omega
    have k2 : ¬ (9223372036854775807 < (decS q).size + 1) := by omega
    have k3 : (decS q).size + 1 ≤ 9223372036854775807 := by omega
    have k4 : (decS q).size ≤ 9223372036854775806 := by omega
    have HM := Lib.hid (decS_more hlt hq)
    have HM2 : Hid (decS q ++ (⟨#[48 + UInt8.ofNat (n % 10)]⟩ : ByteArray) = decS n) := by show _ = _; rw [← HM.out, UInt8.ofNat_add]; rfl
    clear ih hq hc
    go_enter Tryd.func45, Tryd.ntmps45
    go_wp2_with fail
    go_region_with (first | (go_at_call 45; refine (IH.out _).mono ?_; rintro e w1 ⟨rfl, hb1⟩; (try have hcw := HCW.out (w.alloc (.cells #[.int .u8 c] 5)).drew w1 w.heap.size ((Blk.new w #[.int .u8 c] 5).at rfl) hb1)))
    all_goals (go_wp2_with fail; go_ret; refine ⟨by rw [← HM2.out]; rfl, ?_⟩)
    all_goals (first | exact Below.alloc (below_next (below_dr (Below.refl _ _)) hb1) (Nat.le_trans (Nat.le_refl _) hb1.size) _ | exact below_next (below_dr (Below.alloc (Below.refl _ _) (Nat.le_refl _) _)) hb1)

/-- A number with its sign, as a string. -/
def itoS (n : Int) : ByteArray := ⟨(Lib.itoa n).toArray⟩
theorem itoS_neg {n : Int} (h : n < 0) : (⟨#[45]⟩ : ByteArray) ++ decS n.natAbs = itoS n := by
  unfold itoS Lib.itoa decS
  rw [if_pos h]
  exact ByteArray.mk_append_mk [45] _
theorem itoS_pos {n : Int} (h : ¬ n < 0) : decS n.toNat = itoS n := by
  unfold itoS Lib.itoa decS
  rw [if_neg h]
theorem itoS_size {n : Int} (h1 : -9223372036854775807 ≤ n) (h2 : n ≤ 9223372036854775807) : (itoS n).size ≤ 20 := by
  by_cases h : n < 0
  · rw [← itoS_neg h, ByteArray.size_append]
    have := decS_size (u := n.natAbs) (by omega)
    have e : (⟨#[45]⟩ : ByteArray).size = 1 := rfl
    omega
  · rw [← itoS_pos h]
    have := decS_size (u := n.toNat) (by omega)
    omega
set_option maxRecDepth 100000 in
set_option maxHeartbeats 800000 in
theorem Signed_any (n : Int) (h1 : -9223372036854775807 ≤ n) (h2 : n ≤ 9223372036854775807) (w : World) :
    Calls Tryd.prog 35 #[.int .i64 n] w fun e w' => e = .returned (.string (itoS n)) ∧ Below w.heap.size w w' := by
  by_cases hneg : n < 0
  · obtain ⟨q, hq⟩ : ∃ q : Nat, n.natAbs = q := ⟨_, rfl⟩
    have f1 : IntKind.i64.wrap (-n) = (q : Int) := by
      have e : -n = (q : Int) := by omega
      rw [e]; simp only [IntKind.wrap, IntKind.bits, IntKind.signed]; simp; omega
    have HQ := Lib.hid hq
    have HL := decS_size (u := q) (by omega)
    have k1 : ¬ (1 + (decS q).size > 9223372036854775807) := by omega
    have k2 : ¬ (9223372036854775807 < 1 + (decS q).size) := by omega
    have k3 : 1 + (decS q).size ≤ 9223372036854775807 := by omega
    have HS := Lib.hid (itoS_neg hneg)
    have hq' : q < 9223372036854775808 := by omega
    clear hq
    go_enter Tryd.func35, Tryd.ntmps35
    go_wp2_with (go_at_call 45; refine (Decimal_any q hq' _).mono ?_; rintro e w1 ⟨rfl, hb1⟩)
    go_ret
    exact ⟨by rw [← HS.out, HQ.out]; rfl, hb1⟩
  · obtain ⟨q, hq⟩ : ∃ q : Nat, n = (q : Int) := ⟨n.toNat, by omega⟩
    subst hq
    have HS := Lib.hid (itoS_pos hneg)
    have hq' : q < 9223372036854775808 := by omega
    go_enter Tryd.func35, Tryd.ntmps35
    go_wp2_with (go_at_call 45; refine (Decimal_any q hq' _).mono ?_; rintro e w1 ⟨rfl, hb1⟩)
    go_ret
    exact ⟨by rw [← HS.out]; rfl, hb1⟩
end Go.Proofs.YtekemhibnokhcaaDoor
