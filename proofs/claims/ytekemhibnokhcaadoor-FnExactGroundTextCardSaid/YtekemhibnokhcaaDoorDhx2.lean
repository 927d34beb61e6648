/- Numbers as eight hexadecimal digits: the library's digits, walked. -/
import Derived.Test.YtekemhibnokhcaaDoorDhex
import Derived.Lib.LaidTab
namespace Go.Proofs.YtekemhibnokhcaaDoor
open Go.RowKit

/-- The library's table of trailing zeros lies as it should. -/
def deB64 : List Int := [0, 1, 56, 2, 57, 49, 28, 3, 61, 58, 42, 50, 38, 29, 17, 4, 62, 47, 59, 36, 45, 43, 51, 22, 53, 39, 33, 30, 24, 18, 12, 5, 63, 55, 48, 27, 60, 41, 37, 16, 46, 35, 44, 21, 52, 32, 23, 11, 54, 26, 40, 15, 34, 20, 31, 10, 25, 14, 19, 9, 13, 8, 7, 6]
def TabZ (w : World) : Prop := Lib.TabIs Tryd.prog w "math/bits.deBruijn64tab" .u8 deB64
theorem tabs_later {name : String} {k : IntKind} {zs : List Int} {w w' : World} (h : Lib.TabIs Tryd.prog w name k zs) (hb : Below w.heap.size w w') : Lib.TabIs Tryd.prog w' name k zs := by
  unfold Lib.TabIs World.var? at *
  cases hg : Tryd.prog.globalNamed name with
  | none => rw [hg] at h; cases h
  | some g =>
    rw [hg] at h
    simp only [Option.bind_some] at h ⊢
    have hlt : g < w.heap.size := by
      rcases Nat.lt_or_ge g w.heap.size with h' | h'
      · exact h'
      · rw [Array.getElem?_eq_none h'] at h; cases h
    rw [hb.block g hlt]
    exact h
theorem gZ : Tryd.prog.globalNamed "math/bits.deBruijn64tab" = some 4 := by kernel_rfl

set_option maxRecDepth 100000 in
set_option maxHeartbeats 800000 in
theorem tz64_any (w : World) (ht : TabZ w) : Calls Tryd.prog 86 #[.int .u64 16] w fun e w' => e = .returned (.int .i64 4) ∧ Below w.heap.size w w' := by
  have hc : w.cell? ⟨4, 15, none⟩ = some (.int .u8 4) := ht.cell gZ 15 (by decide)
  have a1 : IntKind.u64.wrap (-16) = 18446744073709551600 := by decide +kernel
  have a2 : bits BinOp.and IntKind.u64 16 18446744073709551600 = 16 := by decide +kernel
  have a3 : IntKind.u64.wrap (16 * 285870213051353865) = 4573923408821661840 := by decide +kernel
  have a4 : IntKind.u64.wrap 4573923408821661840 = 4573923408821661840 := by decide +kernel
  clear ht
  go_enter Tryd.func86, Tryd.ntmps86
  go_wp2_with fail
  go_ret
  exact ⟨rfl, Below.refl _ _⟩
set_option maxHeartbeats 800000 in
theorem pow2_any (w : World) : Calls Tryd.prog 83 #[.int .i64 16] w fun e w' => e = .returned (.bool true) ∧ w = w' := by
  go_enter Tryd.func83, Tryd.ntmps83
  go_wp2_with fail
  go_ret
  exact ⟨rfl, rfl⟩
set_option maxHeartbeats 800000 in
theorem tz_any (w : World) (ht : TabZ w) : Calls Tryd.prog 84 #[.int .u64 16] w fun e w' => e = .returned (.int .i64 4) ∧ Below w.heap.size w w' := by
  go_enter Tryd.func84, Tryd.ntmps84
  go_wp2_with (go_at_call 86; refine (tz64_any _ ht).mono ?_; rintro e w1 ⟨rfl, hb⟩)
  go_ret
  exact ⟨rfl, hb⟩

theorem sizeU8 : (Tryd.prog.info? 5).map (·.size) = some 1 := by kernel_rfl
theorem newA65 (w : World) : (Instr.alloc 113 true (.tuple #[])).run Tryd.prog w = .ok (.pointer (some ⟨w.heap.size, 0, none⟩)) (w.alloc (.cells (Array.replicate 65 (.int .u8 0)) 113)) := by kernel_rfl
def FbRel (u : Nat) (w : World) (A : Nat) (v1 v13 : Value) (wr : World) : Prop :=
  ∃ (j : Nat) (cur : Array Value), j ≤ 7 ∧ (j = 0 ∨ 16 ^ j ≤ u) ∧ v1 = .int .u64 ((u / 16 ^ j : Nat) : Int) ∧ v13 = .int .i64 ((65 - j : Nat) : Int) ∧ Blk wr A cur 113 ∧ cur.size = 65 ∧ (∀ t, t < j → cur[64 - t]? = some (.int .u8 ((hexAt u t).toNat : Int))) ∧ Below w.heap.size w wr

set_option maxRecDepth 100000 in
set_option maxHeartbeats 3200000 in
theorem formatBits_any (u : Nat) (hu : u < 4294967296) (w : World) (ht : TabZ w) :
    Calls Tryd.prog 75 #[.slice none 0 0, .int .u64 (u : Int), .int .i64 16, .bool false, .bool false] w fun e w' => ∃ m, e = .returned (.tuple #[.slice none 0 0, .string ⟨(hexM u m).toArray⟩]) ∧ 1 ≤ m ∧ m ≤ 8 ∧ u < 16 ^ m ∧ Below w.heap.size w w' := by
  have HT := Lib.hid ht
  clear ht
  go_enter Tryd.func75, Tryd.ntmps75
  go_wp2_with (first | (with_reducible refine wpList_new newA65 ?_) | (go_at_call 83; refine (pow2_any _).mono ?_; rintro e w1 ⟨rfl, rfl⟩) | (go_at_call 84; refine (tz_any _ (tabs_later HT.out HBA.out)).mono ?_; rintro e w2 ⟨rfl, hb2⟩))
  intro A wA hA1 hA2 hA3 hA4
  have HBA := Lib.hid hA4
  go_wp2_with (first | (go_at_call 83; refine (pow2_any _).mono ?_; rintro e w1 ⟨rfl, rfl⟩) | (go_at_call 84; refine (tz_any _ (tabs_later HT.out HBA.out)).mono ?_; rintro e w2 ⟨rfl, hb2⟩))
  have HB2 := Lib.hid (below_next HBA.out hb2)
  have HK2 := Lib.hid (hA3.later hb2)
  have hAw : w.heap.size ≤ A := hA1
  clear hA3 hA4 hb2 HBA HT
  go_loopw [1, 13] (fun v1 v13 wr => FbRel u w A v1 v13 wr) (fun _ v13 _ => (intOf v13).toNat)
  case atStart => exact ⟨0, _, by omega, .inl rfl, by simp, rfl, HK2.out, by simp, fun t ht => absurd ht (by omega), HB2.out⟩
  case round =>
    obtain ⟨j, cur, hj, hju, rfl, rfl, hb, hsz, hall, hB⟩ := hrel
    have HK := Lib.hid hb
    have HALL := Lib.hid hall
    have HB := Lib.hid hB
    clear hb hall hB HK2 HB2
    obtain ⟨x, hx⟩ : ∃ x, u / 16 ^ j = x := ⟨_, rfl⟩
    obtain ⟨q, hq⟩ : ∃ q, 65 - j = q := ⟨_, rfl⟩
    obtain ⟨p, hp⟩ : ∃ p, 64 - j = p := ⟨_, rfl⟩
    obtain ⟨d, hd⟩ : ∃ d, x % 16 = d := ⟨_, rfl⟩
    have hxu : x ≤ u := by rw [← hx]; exact Nat.div_le_self _ _
    have wm : IntKind.i64.wrap ((q : Int) - 1) = (p : Int) := by
      rw [show (q : Int) - 1 = (p : Int) by omega]
      simp only [IntKind.wrap, IntKind.bits, IntKind.signed]; simp; omega
    have p0 : (0 : Int) ≤ (p : Int) := by omega
    have p1 : (p : Int) < 65 := by omega
    have hx16 : u / 16 ^ (j + 1) = x / 16 := by rw [Nat.pow_succ, ← Nat.div_div_eq_div_mul, hx]
    have hat : hexAt u j = hexB d := by unfold hexAt; rw [hx, hd]
    rw [hx, hq]
    by_cases h16 : 16 ≤ x
    · have k1 : (16 : Int) ≤ (x : Int) := by omega
      have ba : bits BinOp.and IntKind.u64 (x : Int) 15 = (d : Int) := by rw [and15 x (by omega), hd]
      have hidx : ∀ w' : World, (Instr.index 9 (.string digs36) (.int .u64 (d : Int))).run Tryd.prog w' = .ok (.int .u8 ((hexB d).toNat : Int)) w' := by
        intro w'
        rw [run_index_string w' 9 digs36 .u64 (d : Int) (by kernel_rfl), dif_pos ⟨by omega, by show (d : Int) < 36; omega⟩]
        have h1 := digs36_at ⟨d, by omega⟩
        have h2 : digs36[(d : Int).toNat]'(by show _ < 36; omega) = hexB d := by
          have h3 : digs36.data[(d : Int).toNat]? = some (hexB d) := h1
          exact Option.some.inj ((Array.getElem?_eq_getElem (by show _ < 36; omega)).symm.trans h3)
        rw [h2]
      have hidx2 : ∀ w' : World, (Instr.index 9 (.string ⟨#[48, 49, 50, 51, 52, 53, 54, 55, 56, 57, 97, 98, 99, 100, 101, 102, 103, 104, 105, 106, 107, 108, 109, 110, 111, 112, 113, 114, 115, 116, 117, 118, 119, 120, 121, 122]⟩) (.int .u64 (d : Int))).run Tryd.prog w' = .ok (.int .u8 ((hexB d).toNat : Int)) w' := hidx
      obtain ⟨z, hz⟩ : ∃ z : Int, ((hexB d).toNat : Int) = z := ⟨_, rfl⟩
      rw [hz] at hidx2
      clear hidx
      go_wp2_with ((with_reducible refine wpList_gateS ?_); refine wpList_put1 (i := p) (v := .int .u8 z) sizeU8 HK.out (by omega) ?_ ?_ rfl rfl ?_; rfl; rfl)
      intro w3 s3 b3 k3
      have HK3 := Lib.hid b3
      have HB3 := Lib.hid (below_grown HB.out k3 HB.out.size hAw)
      clear b3 k3
      have hup : 16 ^ (j + 1) ≤ u := by
        have h1 : 16 ≤ u / 16 ^ j := by rw [hx]; exact h16
        rw [Nat.le_div_iff_mul_le (Nat.pow_pos (by decide))] at h1
        rw [Nat.pow_succ, Nat.mul_comm]
        exact h1
      have hj7 : j + 1 ≤ 7 := by
        rcases Nat.lt_or_ge j 7 with h | h
        · omega
        · exfalso
          have h2 : 16 ^ 8 ≤ 16 ^ (j + 1) := Nat.pow_le_pow_right (by decide) (by omega)
          have h3 : (16 : Nat) ^ 8 = 4294967296 := by decide
          omega
      go_wp2_with fail
      go_roundw
      case rel =>
        refine ⟨j + 1, _, hj7, .inr hup, by rw [hx16]; rfl, by rw [show 65 - (j + 1) = p by omega], HK3.out, by simpa using hsz, fun t ht => ?_, HB3.out⟩
        rw [Array.getElem?_setIfInBounds]
        by_cases e : p = 64 - t
        · rw [if_pos e, if_pos (by omega), show t = j by omega, hat, hz]
        · rw [if_neg e]; exact HALL.out t (by omega)
      case measure => simp [intOf]; omega
    · have k1 : ¬ (16 : Int) ≤ (x : Int) := by omega
      have hidx : ∀ w' : World, (Instr.index 9 (.string digs36) (.int .u64 (x : Int))).run Tryd.prog w' = .ok (.int .u8 ((hexB x).toNat : Int)) w' := by
        intro w'
        rw [run_index_string w' 9 digs36 .u64 (x : Int) (by kernel_rfl), dif_pos ⟨by omega, by show (x : Int) < 36; omega⟩]
        have h1 := digs36_at ⟨x, by omega⟩
        have h2 : digs36[(x : Int).toNat]'(by show _ < 36; omega) = hexB x := by
          have h3 : digs36.data[(x : Int).toNat]? = some (hexB x) := h1
          exact Option.some.inj ((Array.getElem?_eq_getElem (by show _ < 36; omega)).symm.trans h3)
        rw [h2]
      have hidx2 : ∀ w' : World, (Instr.index 9 (.string ⟨#[48, 49, 50, 51, 52, 53, 54, 55, 56, 57, 97, 98, 99, 100, 101, 102, 103, 104, 105, 106, 107, 108, 109, 110, 111, 112, 113, 114, 115, 116, 117, 118, 119, 120, 121, 122]⟩) (.int .u64 (x : Int))).run Tryd.prog w' = .ok (.int .u8 ((hexB x).toNat : Int)) w' := hidx
      obtain ⟨z, hz⟩ : ∃ z : Int, ((hexB x).toNat : Int) = z := ⟨_, rfl⟩
      rw [hz] at hidx2
      have hat2 : hexAt u j = hexB x := by rw [hat, ← hd, Nat.mod_eq_of_lt (by omega)]
      clear hidx
      go_wp2_with ((with_reducible refine wpList_gateS ?_); refine wpList_put1 (i := p) (v := .int .u8 z) sizeU8 HK.out (by omega) ?_ ?_ rfl rfl ?_; rfl; rfl)
      intro w3 s3 b3 k3
      have HK3 := Lib.hid b3
      have HB3 := Lib.hid (below_grown HB.out k3 HB.out.size hAw)
      clear b3 k3
      have p2 : (p : Int) ≤ 65 := by omega
      have hum : u < 16 ^ (j + 1) := by
        have h1 : u / 16 ^ j < 16 := by rw [hx]; omega
        rw [Nat.div_lt_iff_lt_mul (Nat.pow_pos (by decide))] at h1
        rw [Nat.pow_succ, Nat.mul_comm]
        exact h1
      have hcv : (convert 55 9 (.slice (some ⟨A, p, none⟩) (65 - p) (65 - p))).run Tryd.prog w3 = .ok (.string ⟨(hexM u (j + 1)).toArray⟩) w3 := by
        have h := run_convert_bytes_back (P := Tryd.prog) w3 55 9 5 ⟨A, p, none⟩ (j + 1) (hexM u (j + 1)) (by kernel_rfl) (by kernel_rfl) (by kernel_rfl) (fun k hk => by
          have hk' : k < j + 1 := by rw [hexM_len] at hk; exact hk
          have h1 : (hexM u (j + 1))[k] = hexAt u (j + 1 - 1 - k) := Option.some.inj ((List.getElem?_eq_getElem hk).symm.trans (hexM_get hk'))
          rw [h1]
          have ea : (⟨A, p, none⟩ : Addr).add k = ⟨A, p + k, none⟩ := by
            unfold Addr.add
            split
            · rename_i h0; subst h0; rfl
            · rfl
          rw [ea]
          refine HK3.out.at ?_
          rw [Array.getElem?_setIfInBounds]
          by_cases e : p = p + k
          · rw [if_pos e, if_pos (by omega), show j + 1 - 1 - k = j by omega, hat2, hz]
          · rw [if_neg e, show p + k = 64 - (j + 1 - 1 - k) by omega]
            exact HALL.out _ (by omega))
        rw [hexM_len] at h
        rw [show 65 - p = j + 1 by omega]
        exact h
      go_wp2_with fail
      go_ret2
      exact ⟨j + 1, rfl, by omega, by omega, hum, HB3.out⟩

set_option maxRecDepth 100000 in
set_option maxHeartbeats 800000 in
theorem iFormatUint_any (u : Nat) (hu : u < 4294967296) (w : World) (ht : TabZ w) :
    Calls Tryd.prog 68 #[.int .u64 (u : Int), .int .i64 16] w fun e w' => ∃ m, e = .returned (.string ⟨(hexM u m).toArray⟩) ∧ 1 ≤ m ∧ m ≤ 8 ∧ u < 16 ^ m ∧ Below w.heap.size w w' := by
  go_enter Tryd.func68, Tryd.ntmps68
  go_wp2_with (go_at_call 75; refine (formatBits_any u hu _ ht).mono ?_; rintro e w1 ⟨m, rfl, h1, h2, h3, hb⟩)
  go_ret
  exact ⟨m, rfl, h1, h2, h3, hb⟩
set_option maxRecDepth 100000 in
set_option maxHeartbeats 800000 in
theorem FormatUint_any (u : Nat) (hu : u < 4294967296) (w : World) (ht : TabZ w) :
    Calls Tryd.prog 59 #[.int .u64 (u : Int), .int .i64 16] w fun e w' => ∃ m, e = .returned (.string ⟨(hexM u m).toArray⟩) ∧ 1 ≤ m ∧ m ≤ 8 ∧ u < 16 ^ m ∧ Below w.heap.size w w' := by
  go_enter Tryd.func59, Tryd.ntmps59
  go_wp2_with (go_at_call 68; refine (iFormatUint_any u hu _ ht).mono ?_; rintro e w1 ⟨m, rfl, h1, h2, h3, hb⟩)
  go_ret
  exact ⟨m, rfl, h1, h2, h3, hb⟩

def zeros (n : Nat) : ByteArray := ⟨(List.replicate n 48).toArray⟩
set_option maxRecDepth 100000 in
set_option maxHeartbeats 800000 in
theorem mul64_any (n : Nat) (hn : n ≤ 7) (w : World) : Calls Tryd.prog 78 #[.int .u64 1, .int .u64 (n : Int)] w fun e w' => e = .returned (.tuple #[.int .u64 0, .int .u64 (n : Int)]) ∧ w = w' := by
  have b1 : bits BinOp.and IntKind.u64 1 4294967295 = 1 := by decide +kernel
  have b0 : bits BinOp.and IntKind.u64 0 4294967295 = 0 := by decide +kernel
  have key : ∀ k : Fin 8, bits BinOp.and IntKind.u64 ((k.val : Nat) : Int) 4294967295 = (k.val : Int) ∧ ((k.val : Nat) : Int) / 4294967296 = 0 ∧ IntKind.u64.wrap ((k.val : Nat) : Int) = (k.val : Int) := by decide +kernel
  obtain ⟨b2, b3, b4⟩ := key ⟨n, by omega⟩
  have n0 : (0 : Int) ≤ (n : Int) := by omega
  have n1 : (n : Int) ≤ 7 := by omega
  go_enter Tryd.func78, Tryd.ntmps78
  go_wp2_with fail
  go_ret2
  exact ⟨rfl, rfl⟩
set_option maxRecDepth 100000 in
set_option maxHeartbeats 800000 in
theorem mul_any (n : Nat) (hn : n ≤ 7) (w : World) : Calls Tryd.prog 69 #[.int .u64 1, .int .u64 (n : Int)] w fun e w' => e = .returned (.tuple #[.int .u64 0, .int .u64 (n : Int)]) ∧ w = w' := by
  go_enter Tryd.func69, Tryd.ntmps69
  go_wp2_with (go_at_call 78; refine (mul64_any n hn _).mono ?_; rintro e w1 ⟨rfl, rfl⟩)
  go_ret2
  exact ⟨rfl, rfl⟩
set_option maxRecDepth 100000 in
set_option maxHeartbeats 800000 in
theorem hasPre_any (s : ByteArray) (h1 : 1 ≤ s.size) (h2 : s.extract 0 1 = ⟨#[48]⟩) (w : World) : Calls Tryd.prog 79 #[.string s, .string ⟨#[48]⟩] w fun e w' => e = .returned (.bool true) ∧ w = w' := by
  have k1 : (1 : Int) ≤ (s.size : Int) := by omega
  go_enter Tryd.func79, Tryd.ntmps79
  go_wp2_with fail
  go_ret
  exact ⟨rfl, rfl⟩
set_option maxRecDepth 100000 in
set_option maxHeartbeats 800000 in
theorem hasPrefix_any (s : ByteArray) (h1 : 1 ≤ s.size) (h2 : s.extract 0 1 = ⟨#[48]⟩) (w : World) : Calls Tryd.prog 70 #[.string s, .string ⟨#[48]⟩] w fun e w' => e = .returned (.bool true) ∧ w = w' := by
  go_enter Tryd.func70, Tryd.ntmps70
  go_wp2_with (go_at_call 79; refine (hasPre_any s h1 h2 _).mono ?_; rintro e w1 ⟨rfl, rfl⟩)
  go_ret
  exact ⟨rfl, rfl⟩
set_option maxRecDepth 100000 in
set_option maxHeartbeats 800000 in
theorem hasPreF_any (s t : ByteArray) (h1 : 1 ≤ s.size) (h2 : s.extract 0 1 = t) (h3 : (t.toList == [48]) = false) (w : World) : Calls Tryd.prog 79 #[.string s, .string ⟨#[48]⟩] w fun e w' => e = .returned (.bool false) ∧ w = w' := by
  have k1 : (1 : Int) ≤ (s.size : Int) := by omega
  go_enter Tryd.func79, Tryd.ntmps79
  go_wp2_with fail
  go_ret
  exact ⟨rfl, rfl⟩
set_option maxRecDepth 100000 in
set_option maxHeartbeats 800000 in
theorem hasPrefixF_any (s t : ByteArray) (h1 : 1 ≤ s.size) (h2 : s.extract 0 1 = t) (h3 : (t.toList == [48]) = false) (w : World) : Calls Tryd.prog 70 #[.string s, .string ⟨#[48]⟩] w fun e w' => e = .returned (.bool false) ∧ w = w' := by
  go_enter Tryd.func70, Tryd.ntmps70
  go_wp2_with (go_at_call 79; refine (hasPreF_any s t h1 h2 h3 _).mono ?_; rintro e w1 ⟨rfl, rfl⟩)
  go_ret
  exact ⟨rfl, rfl⟩
set_option maxRecDepth 100000 in
set_option maxHeartbeats 1600000 in
theorem Repeat_any (n : Nat) (hn : n ≤ 7) (w : World) : Calls Tryd.prog 61 #[.string ⟨#[48]⟩, .int .i64 (n : Int)] w fun e w' => e = .returned (.string (zeros n)) ∧ Below w.heap.size w w' := by
  by_cases e0 : n = 0
  · subst e0
    go_enter Tryd.func61, Tryd.ntmps61
    go_wp2_with fail
    go_ret
    exact ⟨rfl, Below.refl _ _⟩
  by_cases e1 : n = 1
  · subst e1
    go_enter Tryd.func61, Tryd.ntmps61
    go_wp2_with fail
    go_ret
    exact ⟨rfl, Below.refl _ _⟩
  have z0 : ((n : Int) == 0) = false := by simpa using e0
  have z0' : ¬ (n : Int) = 0 := by omega
  have z1 : ((n : Int) == 1) = false := by simp; omega
  have z1' : ¬ (n : Int) = 1 := by omega
  have n0 : ¬ (n : Int) < 0 := by omega
  have n1 : (n : Int) ≤ 128 := by omega
  have n2 : ¬ (9223372036854775807 : Int) < (n : Int) := by omega
  have n3 : (0 : Int) ≤ (n : Int) := by omega
  have wu : IntKind.u64.wrap (n : Int) = (n : Int) := by simp only [IntKind.wrap, IntKind.bits, IntKind.signed]; simp; omega
  have wi : IntKind.i64.wrap (n : Int) = (n : Int) := by simp only [IntKind.wrap, IntKind.bits, IntKind.signed]; simp; omega
  go_enter Tryd.func61, Tryd.ntmps61
  go_wp2_with (first | (go_at_call 69; refine (mul_any n hn _).mono ?_; rintro e w1 ⟨rfl, rfl⟩) | (go_at_call 70; refine (hasPrefix_any _ (by decide +kernel) (by decide +kernel) _).mono ?_; rintro e w1 ⟨rfl, rfl⟩) | (go_at_call 70; refine (hasPrefixF_any _ ⟨#[32]⟩ (by decide +kernel) (by decide +kernel) (by decide +kernel) _).mono ?_; rintro e w1 ⟨rfl, rfl⟩) | (go_at_call 70; refine (hasPrefixF_any _ ⟨#[45]⟩ (by decide +kernel) (by decide +kernel) (by decide +kernel) _).mono ?_; rintro e w1 ⟨rfl, rfl⟩))
  go_ret
  clear z0 z0' z1 z1' n0 n1 n2 n3 wu wi
  refine ⟨?_, Below.refl _ _⟩
  have key : n = 2 ∨ n = 3 ∨ n = 4 ∨ n = 5 ∨ n = 6 ∨ n = 7 := by omega
  rcases key with rfl | rfl | rfl | rfl | rfl | rfl <;> (show Ending.returned (Value.string _) = Ending.returned (Value.string _); refine congrArg Ending.returned (congrArg Value.string ?_); decide +kernel)

/-- The bits of a number, one pattern for each NaN. -/
def nbit (r : Nat) : Nat := if feq (fb r) (fb r) then r else 2143289344
theorem nan_hex : (⟨#[55, 102, 99, 48, 48, 48, 48, 48]⟩ : ByteArray) = hexS 2143289344 := by decide +kernel
set_option maxHeartbeats 400000 in
theorem isNaN_any (r : Nat) (w : World) : Calls Tryd.prog 58 #[.float .f32 r] w fun e w' => e = .returned (.bool (!feq (fb r) (fb r))) ∧ w = w' := by
  have heq' := order_eq
  go_enter Tryd.func58, Tryd.ntmps58
  go_wp2_with fail
  go_ret
  refine ⟨?_, rfl⟩
  rw [← order_eq]; rfl
theorem run_bits (d : Nat) (w : World) : (callFunc 60 #[.float .f32 d]).run Tryd.prog w = .ok (.value (.int .u32 d)) w := by
  rw [run_callFunc_extern (e := Extern.MathFloatBits.float32bits) Tryd.func60 (by kernel_rfl) (by kernel_rfl) (by kernel_rfl) (by kernel_rfl)]
  rfl
set_option maxRecDepth 100000 in
set_option maxHeartbeats 1600000 in
theorem NumberText_any (r : Nat) (hr : r < 4294967296) (w : World) (ht : TabZ w) : Calls Tryd.prog 31 #[.float .f32 r] w fun e w' => e = .returned (.string (hexS (nbit r))) ∧ Below w.heap.size w w' := by
  have HT := Lib.hid ht
  clear ht
  cases hn : feq (fb r) (fb r)
  · have HN : Hid (hexS (nbit r) = ⟨#[55, 102, 99, 48, 48, 48, 48, 48]⟩) := by show _ = _; rw [nan_hex]; unfold nbit; rw [hn]; rfl
    have HF := Lib.hid hn
    clear hn
    go_enter Tryd.func31, Tryd.ntmps31
    go_wp2_with (go_at_call 58; refine (isNaN_any r _).mono ?_; rw [HF.out]; rintro e w1 ⟨rfl, rfl⟩)
    go_ret
    exact ⟨by rw [HN.out]; rfl, Below.refl _ _⟩
  · have HN : Hid (nbit r = r) := by show _ = _; unfold nbit; rw [hn]; rfl
    have HF := Lib.hid hn
    have hb := run_bits r
    have w1' : IntKind.u64.wrap (r : Int) = (r : Int) := by simp only [IntKind.wrap, IntKind.bits, IntKind.signed]; simp; omega
    clear hn
    go_enter Tryd.func31, Tryd.ntmps31
    go_wp2_with (first | (go_at_call 58; refine (isNaN_any r _).mono ?_; rw [HF.out]; rintro e w1 ⟨rfl, rfl⟩) | (go_at_call 59; refine (FormatUint_any r hr _ HT.out).mono ?_; rintro e w2 ⟨m, rfl, h1, h2, h3, hb2⟩))
    have hw : wrap64 (8 - ((hexM r m).length : Int)) = ((8 - m : Nat) : Int) := by rw [hexM_len]; unfold wrap64; omega
    rw [hw]
    clear hw
    refine (Repeat_any (8 - m) (by omega) _).mono ?_
    rintro e w3 ⟨rfl, hb3⟩
    have r1 : ∀ w' : World, (Op.stringOp .add (zeros (8 - m)) ⟨(hexM r m).toArray⟩).run Tryd.prog w' = .ok (.string (hexS r)) w' := by
      intro w'
      rw [run_string_add_sum w' _ _ (by show (List.replicate (8 - m) (48 : UInt8)).toArray.size + (hexM r m).toArray.size ≤ _; rw [List.size_toArray, List.size_toArray, List.length_replicate, hexM_len]; omega)]
      unfold zeros hexS
      rw [ByteArray.mk_append_mk, hex_pad h3 h2]
    have HB3 := Lib.hid (below_next hb2 hb3)
    clear h1 h2 h3 hb2 hb3 hb w1'
    go_wp2_with fail
    go_ret
    exact ⟨by rw [HN.out]; rfl, HB3.out⟩

set_option maxRecDepth 100000 in
set_option maxHeartbeats 800000 in
theorem l01Bits_any (r : Nat) (w : World) : Calls Tryd.prog 44 #[.float .f32 r] w fun e w' => e = .returned (.int .u32 (nbit r : Nat)) ∧ w = w' := by
  have hb := run_bits r
  cases hn : feq (fb r) (fb r)
  · have q1 : (FloatKind.f32.format.order r r != some Ordering.eq) = true := by rw [bne, order_eq, hn]; rfl
    have HN : Hid (nbit r = 2143289344) := by show _ = _; unfold nbit; rw [hn]; rfl
    go_enter Tryd.func44, Tryd.ntmps44
    go_wp2_with fail
    go_ret
    exact ⟨by rw [HN.out]; rfl, rfl⟩
  · have q1 : (FloatKind.f32.format.order r r != some Ordering.eq) = false := by rw [bne, order_eq, hn]; rfl
    have HN : Hid (nbit r = r) := by show _ = _; unfold nbit; rw [hn]; rfl
    go_enter Tryd.func44, Tryd.ntmps44
    go_wp2_with fail
    go_ret
    exact ⟨by rw [HN.out]; rfl, rfl⟩
theorem nbit_lt {r : Nat} (hr : r < 4294967296) : nbit r < 4294967296 := by unfold nbit; split <;> omega
theorem hex_conv (w' : World) (A p u m cap : Nat) (hcell : ∀ k, k < m → w'.cell? ⟨A, p + k, none⟩ = some (.int .u8 ((hexAt u (m - 1 - k)).toNat : Int))) :
    (convert 55 9 (.slice (some ⟨A, p, none⟩) m cap)).run Tryd.prog w' = .ok (.string ⟨(hexM u m).toArray⟩) w' := by
  have h := run_convert_bytes_back (P := Tryd.prog) w' 55 9 5 ⟨A, p, none⟩ cap (hexM u m) (by kernel_rfl) (by kernel_rfl) (by kernel_rfl) (fun k hk => by
    have hk' : k < m := by rw [hexM_len] at hk; exact hk
    have h1 : (hexM u m)[k] = hexAt u (m - 1 - k) := Option.some.inj ((List.getElem?_eq_getElem hk).symm.trans (hexM_get hk'))
    rw [h1]
    have ea : (⟨A, p, none⟩ : Addr).add k = ⟨A, p + k, none⟩ := by
      unfold Addr.add
      split
      · rename_i h0; subst h0; rfl
      · rfl
    rw [ea]
    exact hcell k hk')
  rw [hexM_len] at h
  exact h
def HxRel (u : Nat) (w : World) (A : Nat) (v3 v5 : Value) (wr : World) : Prop :=
  ∃ (j : Nat) (cur : Array Value), j ≤ 8 ∧ v3 = .int .u32 ((u / 16 ^ j : Nat) : Int) ∧ v5 = .int .i64 (7 - (j : Int)) ∧ Blk wr A cur 5 ∧ cur.size = 8 ∧ (∀ t, t < j → cur[7 - t]? = some (.int .u8 ((hexAt u t).toNat : Int))) ∧ Below w.heap.size w wr

set_option maxRecDepth 100000 in
set_option maxHeartbeats 3200000 in
theorem l01Hex_any (r : Nat) (hr : r < 4294967296) (w : World) : Calls Tryd.prog 47 #[.float .f32 r] w fun e w' => e = .returned (.string (hexS (nbit r))) ∧ Below w.heap.size w w' := by
  have hu := nbit_lt hr
  obtain ⟨u, hue⟩ : ∃ u, nbit r = u := ⟨_, rfl⟩
  rw [hue] at hu ⊢
  have HU := Lib.hid hue
  clear hue
  have hmk : ∀ w' : World, (Instr.makeSlice 55 (.int .i64 8) (.int .i64 8)).run Tryd.prog w' = .ok (.slice (some ⟨w'.heap.size, 0, none⟩) 8 8) (w'.alloc (.cells (Array.replicate 8 (.int .u8 0)) 5)) := fun w' => by kernel_rfl
  go_enter Tryd.func47, Tryd.ntmps47
  go_wp2_with (go_at_call 44; refine (l01Bits_any r _).mono ?_; rw [HU.out]; rintro e w1 ⟨rfl, rfl⟩)
  obtain ⟨A, hA⟩ : ∃ A, w.heap.size = A := ⟨_, rfl⟩
  have HK0 : Hid (Blk (w.alloc (.cells (Array.replicate 8 (.int .u8 0)) 5)) A (Array.replicate 8 (.int .u8 0)) 5) := by rw [← hA]; exact Blk.new w _ 5
  have HB0 : Hid (Below w.heap.size w (w.alloc (.cells (Array.replicate 8 (.int .u8 0)) 5))) := (Below.refl _ _).alloc (Nat.le_refl _) _
  have hAw : w.heap.size ≤ A := by omega
  rw [hA]
  clear hmk
  generalize w.alloc (.cells (Array.replicate 8 (.int .u8 0)) 5) = w2 at *
  go_loopw [3, 5] (fun v3 v5 wr => HxRel u w A v3 v5 wr) (fun _ v5 _ => (intOf v5 + 1).toNat)
  case atStart => exact ⟨0, _, by omega, by simp, rfl, HK0.out, by simp, fun t ht => absurd ht (by omega), HB0.out⟩
  case round =>
    obtain ⟨j, cur, hj, rfl, rfl, hb, hsz, hall, hB⟩ := hrel
    have HK := Lib.hid hb
    have HALL := Lib.hid hall
    have HB := Lib.hid hB
    clear hb hall hB HK0 HB0
    by_cases hj8 : j < 8
    · obtain ⟨x, hx⟩ : ∃ x, u / 16 ^ j = x := ⟨_, rfl⟩
      obtain ⟨d, hd⟩ : ∃ d, x % 16 = d := ⟨_, rfl⟩
      obtain ⟨y, hy⟩ : ∃ y, x / 16 = y := ⟨_, rfl⟩
      obtain ⟨p, hp⟩ : ∃ p, 7 - j = p := ⟨_, rfl⟩
      have hxu : x ≤ u := by rw [← hx]; exact Nat.div_le_self _ _
      have e1 : (7 : Int) - (j : Int) = (p : Int) := by omega
      have hy2 : u / 16 ^ (j + 1) = y := by rw [Nat.pow_succ, ← Nat.div_div_eq_div_mul, hx, hy]
      have hat : hexAt u j = hexB d := by unfold hexAt; rw [hx, hd]
      have p0 : (0 : Int) ≤ (p : Int) := by omega
      have p1 : (p : Int) < 8 := by omega
      have wm : IntKind.i64.wrap ((p : Int) - 1) = 7 - ((j + 1 : Nat) : Int) := by
        rw [show (p : Int) - 1 = 7 - ((j + 1 : Nat) : Int) by omega]
        simp only [IntKind.wrap, IntKind.bits, IntKind.signed]; simp; omega
      have m1 : (x : Int) % 16 = (d : Int) := by omega
      have m2 : (x : Int).tmod 16 = (d : Int) := by rw [← hd]; rfl
      have m3 : (x : Int) / 16 = (y : Int) := by omega
      have m4 : (x : Int).tdiv 16 = (y : Int) := by rw [← hy]; rfl
      have wy : IntKind.u32.wrap (y : Int) = (y : Int) := by simp only [IntKind.wrap, IntKind.bits, IntKind.signed]; simp; omega
      have hidx : ∀ w' : World, (Instr.index 9 (.string digs16) (.int .u32 (d : Int))).run Tryd.prog w' = .ok (.int .u8 ((hexB d).toNat : Int)) w' := by
        intro w'
        rw [run_index_string w' 9 digs16 .u32 (d : Int) (by kernel_rfl), dif_pos ⟨by omega, by show (d : Int) < 16; omega⟩]
        have h1 := digs16_at ⟨d, by omega⟩
        have h2 : digs16[(d : Int).toNat]'(by show _ < 16; omega) = hexB d := by
          have h3 : digs16.data[(d : Int).toNat]? = some (hexB d) := h1
          exact Option.some.inj ((Array.getElem?_eq_getElem (by show _ < 16; omega)).symm.trans h3)
        rw [h2]
      have hidx2 : ∀ w' : World, (Instr.index 9 (.string ⟨#[48, 49, 50, 51, 52, 53, 54, 55, 56, 57, 97, 98, 99, 100, 101, 102]⟩) (.int .u32 (d : Int))).run Tryd.prog w' = .ok (.int .u8 ((hexB d).toNat : Int)) w' := hidx
      obtain ⟨z, hz⟩ : ∃ z : Int, ((hexB d).toNat : Int) = z := ⟨_, rfl⟩
      rw [hz] at hidx2
      clear hidx
      rw [hx, e1]
      go_wp2_with ((with_reducible refine wpList_gateS ?_); refine wpList_put1 (i := p) (v := .int .u8 z) sizeU8 HK.out (by omega) ?_ ?_ rfl rfl ?_; rfl; rfl)
      intro w3 s3 b3 k3
      have HK3 := Lib.hid b3
      have HB3 := Lib.hid (below_grown HB.out k3 HB.out.size hAw)
      clear b3 k3
      go_wp2_with fail
      go_roundw
      case rel =>
        refine ⟨j + 1, _, by omega, by rw [hy2], rfl, HK3.out, by simpa using hsz, fun t ht => ?_, HB3.out⟩
        rw [Array.getElem?_setIfInBounds]
        by_cases e : p = 7 - t
        · rw [if_pos e, if_pos (by omega), show t = j by omega, hat, hz]
        · rw [if_neg e]; exact HALL.out t (by omega)
      case measure => simp [intOf]; omega
    · obtain rfl : j = 8 := by omega
      rw [show (7 : Int) - ((8 : Nat) : Int) = -1 from rfl]
      have hcv : ∀ w' : World, Blk w' A cur 5 → (convert 55 9 (.slice (some ⟨A, 0, none⟩) 8 8)).run Tryd.prog w' = .ok (.string (hexS u)) w' := by
        intro w' hK
        refine hex_conv w' A 0 u 8 8 fun k hk => ?_
        rw [Nat.zero_add]
        refine hK.at ?_
        have := HALL.out (7 - k) (by omega)
        rw [show 7 - (7 - k) = k by omega] at this
        exact this
      have hcv2 := hcv _ HK.out
      clear hcv
      go_wp2_with fail
      go_ret
      exact ⟨rfl, HB.out⟩
set_option maxHeartbeats 800000 in
theorem specNumberText_any (r : Nat) (hr : r < 4294967296) (w : World) : Calls Tryd.prog 36 #[.float .f32 r] w fun e w' => e = .returned (.string (hexS (nbit r))) ∧ Below w.heap.size w w' := by
  go_enter Tryd.func36, Tryd.ntmps36
  go_wp2_with (go_at_call 47; refine (l01Hex_any r hr _).mono ?_; rintro e w1 ⟨rfl, hb⟩)
  go_ret
  exact ⟨rfl, hb⟩
theorem hexS_size (u : Nat) : (hexS u).size = 8 := by
  show (hexM u 8).toArray.size = 8
  rw [List.size_toArray, hexM_len]
end Go.Proofs.YtekemhibnokhcaaDoor
