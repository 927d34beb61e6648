/- Numbers as eight hexadecimal digits: the library's digits, plain laws. -/
import Derived.Test.YtekemhibnokhcaaDoorDdec
namespace Go.Proofs.YtekemhibnokhcaaDoor
open Go.RowKit

def hexB (d : Nat) : UInt8 := if d < 10 then UInt8.ofNat (48 + d) else UInt8.ofNat (87 + d)
def hexAt (u t : Nat) : UInt8 := hexB (u / 16 ^ t % 16)
/-- The lowest digits of a number, the greatest first. -/
def hexM (u m : Nat) : List UInt8 := (List.range m).map fun k => hexAt u (m - 1 - k)
def hexS (u : Nat) : ByteArray := ⟨(hexM u 8).toArray⟩
theorem hexM_len (u m : Nat) : (hexM u m).length = m := by simp [hexM]
theorem hexM_get {u m k : Nat} (h : k < m) : (hexM u m)[k]? = some (hexAt u (m - 1 - k)) := by
  unfold hexM
  rw [List.getElem?_map, List.getElem?_range h]
  rfl
theorem hex_pad {u m : Nat} (h1 : u < 16 ^ m) (h2 : m ≤ 8) : List.replicate (8 - m) 48 ++ hexM u m = hexM u 8 := by
  refine List.ext_getElem? fun k => ?_
  rcases Nat.lt_or_ge k 8 with hk | hk
  · rw [hexM_get hk]
    rcases Nat.lt_or_ge k (8 - m) with h | h
    · rw [List.getElem?_append_left (by simpa using h), List.getElem?_replicate, if_pos h]
      unfold hexAt
      have h3 : u / 16 ^ (8 - 1 - k) = 0 := Nat.div_eq_of_lt (Nat.lt_of_lt_of_le h1 (Nat.pow_le_pow_right (by decide) (by omega)))
      rw [h3]
      rfl
    · rw [List.getElem?_append_right (by simpa using h), List.length_replicate, hexM_get (by omega)]
      congr 2
      omega
  · rw [List.getElem?_eq_none (by rw [List.length_append, List.length_replicate, hexM_len]; omega), List.getElem?_eq_none (by rw [hexM_len]; exact hk)]
theorem and15 (x : Nat) (h : x < 18446744073709551616) : bits BinOp.and IntKind.u64 (x : Int) 15 = ((x % 16 : Nat) : Int) := by
  have e1 : (BitVec.ofInt 64 (x : Int)).toNat = x := by
    rw [BitVec.toNat_ofInt]
    omega
  show IntKind.u64.wrap (BitVec.ofInt 64 (x : Int) &&& BitVec.ofInt 64 15).toNat = _
  rw [BitVec.toNat_and, e1, show (BitVec.ofInt 64 15).toNat = 2 ^ 4 - 1 from rfl, Nat.and_two_pow_sub_one_eq_mod]
  simp only [IntKind.wrap, IntKind.bits, IntKind.signed]
  simp
  omega
def digs36 : ByteArray := ⟨#[48, 49, 50, 51, 52, 53, 54, 55, 56, 57, 97, 98, 99, 100, 101, 102, 103, 104, 105, 106, 107, 108, 109, 110, 111, 112, 113, 114, 115, 116, 117, 118, 119, 120, 121, 122]⟩
def digs16 : ByteArray := ⟨#[48, 49, 50, 51, 52, 53, 54, 55, 56, 57, 97, 98, 99, 100, 101, 102]⟩
theorem digs36_at : ∀ d : Fin 16, digs36.data[d.val]? = some (hexB d.val) := by decide +kernel
theorem digs16_at : ∀ d : Fin 16, digs16.data[d.val]? = some (hexB d.val) := by decide +kernel
end Go.Proofs.YtekemhibnokhcaaDoor
