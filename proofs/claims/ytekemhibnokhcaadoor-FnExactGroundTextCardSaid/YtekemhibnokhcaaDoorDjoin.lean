/- strings.Join at four words. -/
import Derived.Test.YtekemhibnokhcaaDoorDcom
import Derived.Test.YtekemhibnokhcaaDoorDhx2
import Derived.Test.YtekemhibnokhcaaDoorShelfG
import Derived.Deep.QuietTactic
import Derived.BigQuiet
namespace Go.Proofs.YtekemhibnokhcaaDoor
open Go.RowKit

set_option maxRecDepth 100000 in
set_option maxHeartbeats 800000 in
theorem copyCheck_fresh (b : Nat) (w : World) (hbk : w.heap[b]? = some (.cells #[.pointer none, .slice none 0 0] 57 (0, 0))) :
    Calls Tryd.prog 55 #[.pointer (some ⟨b, 0, none⟩)] w fun e w' => e = .returned (.tuple #[]) ∧ w' = w.setCell ⟨b, 0, none⟩ (.pointer (some ⟨b, 0, none⟩)) := by
  have h : Lib.BuilderAtF 57 5 0 b (.pointer none) [] w := ⟨Nat.zero_le _, _, hbk, World.ownsRowF_of (World.ownsRow_nil _ _ _ _), by simp [Value.ownBlock]⟩
  have c0 := h.cell0
  have f0 := h.frozen0
  have hs := h.shape
  clear h hbk
  go_enter Tryd.func55, Tryd.ntmps55
  have u40 : Tryd.prog.underlying 54 = some (.pointer 57) := by kernel_rfl
  have u52 : Tryd.prog.underlying 93 = some .unsafePointer := by kernel_rfl
  have hsz : (Tryd.prog.info? 57).map (·.size) = some 2 := by kernel_rfl
  obtain ⟨j, hj, hjs⟩ := Option.map_eq_some_iff.1 hsz
  have hlies : liesAt Tryd.prog Tryd.prog.depth 57 (2 / Tryd.prog.cellsOf 57) 0 57 1 = true := by kernel_rfl
  go_wp2
  rw [Lib.run_to_unsafe w ⟨b, 0, none⟩ u40 u52 hj (by rw [hjs]; decide) hs (Nat.zero_lt_succ 1)]
  simp only [Result.andThen]
  rw [Oper.upon_value]
  go_wp2
  rw [run_callFunc_extern Tryd.func65 (by kernel_rfl) (by kernel_rfl) (by kernel_rfl) (e := Extern.AbiNoEscape.same) (by kernel_rfl)]
  rw [Lib.run_noEscape]
  simp only [Result.andThen]
  rw [Oper.upon_value]
  go_wp2
  rw [Lib.run_from_unsafe w ⟨b, 0, none⟩ u52 u40 hj hs hlies]
  simp only [Result.andThen]
  rw [Oper.upon_value]
  go_wp2
  go_end0
  exact ⟨rfl, rfl⟩
set_option maxRecDepth 100000 in
set_option maxHeartbeats 1600000 in
theorem Grow_fresh (B b n : Nat) (w : World) (hB : B ≤ b) (hbk : w.heap[b]? = some (.cells #[.pointer none, .slice none 0 0] 57 (0, 0))) (hBw : B ≤ w.heap.size) (h1 : 1 ≤ n) (hn : n ≤ 100000) :
    Calls Tryd.prog 57 #[.pointer (some ⟨b, 0, none⟩), .int .i64 (n : Int)] w fun e w' => e = .returned (.tuple #[]) ∧ Lib.IsBuilderF 57 5 B b [] w' ∧ Below B w w' := by
  have hk2 : Hid ((w.setCell ⟨b, 0, none⟩ (.pointer (some ⟨b, 0, none⟩))).heap[b]? = some (.cells #[.pointer (some ⟨b, 0, none⟩), .slice none 0 0] 57 (0, 0))) := by
    show _ = _
    simp [World.setCell, Array.getElem?_modify, hbk]
  have HBL : Hid (Below B w (w.setCell ⟨b, 0, none⟩ (.pointer (some ⟨b, 0, none⟩)))) := (Below.refl B w).setCell (p := ⟨b, 0, none⟩) hB _
  have hsz : (w.setCell ⟨b, 0, none⟩ (.pointer (some ⟨b, 0, none⟩))).heap.size = w.heap.size := by simp [World.setCell]
  have n0 : ¬ (n : Int) < 0 := by omega
  have n1 : (0 : Int) < (n : Int) := by omega
  have HCC := Lib.hid (copyCheck_fresh b w hbk)
  clear hbk
  go_enter Tryd.func57, Tryd.ntmps57
  go_wp2_with fail
  refine HCC.out.mono ?_
  rintro e w1 ⟨rfl, hw1⟩
  rw [← hw1] at hk2 HBL hsz
  clear HCC hw1
  have c1 : w1.cell? ⟨b, 1, none⟩ = some (.slice none 0 0) := by rw [Lib.cell_of_heap hk2.out]; rfl
  go_wp2_with fail
  go_quiet (fail)
  go_wp2_with fail
  go_wp2_with (go_at_call 67; refine (Tryd.Builder_grow_fresh B b n _ hB (by simpa using hk2.out) (by simp; omega) (by omega)).mono ?_; rintro e w2 ⟨rfl, h2, hb2⟩)
  go_end0
  exact ⟨rfl, .inr (Lib.BuilderAtF.of h2), HBL.out.trans (show Below B w1 w2 from ⟨hb2.os, hb2.tape, hb2.output, by simpa using hb2.size, by simpa using hb2.block⟩)⟩

/-- The words joined, the first k + 1 of them. -/
def jn (L : List ByteArray) : Nat → ByteArray
  | 0 => (L[0]?).getD ⟨#[]⟩
  | k + 1 => jn L k ++ ⟨#[32]⟩ ++ (L[k + 1]?).getD ⟨#[]⟩
theorem jn_more {L : List ByteArray} {k : Nat} {e : ByteArray} (h : L[k + 1]? = some e) : (jn L k ++ (⟨#[32]⟩ : ByteArray)) ++ e = jn L (k + 1) := by
  show _ = (jn L k ++ (⟨#[32]⟩ : ByteArray)) ++ (L[k + 1]?).getD ⟨#[]⟩
  rw [h]; rfl
theorem jn_size {L : List ByteArray} (h : ∀ e ∈ L, e.size ≤ 20) : ∀ k, (jn L k).size ≤ 21 * (k + 1)
  | 0 => by
    show ((L[0]?).getD (⟨#[]⟩ : ByteArray)).size ≤ _
    cases he : L[0]? with
    | none => exact Nat.zero_le _
    | some e => exact Nat.le_trans (h e (List.mem_of_getElem? he)) (by decide)
  | k + 1 => by
    have := jn_size h k
    show (jn L k ++ (⟨#[32]⟩ : ByteArray) ++ (L[k + 1]?).getD ⟨#[]⟩).size ≤ _
    rw [ByteArray.size_append, ByteArray.size_append, s32]
    cases he : L[k + 1]? with
    | none => show _ + 0 ≤ _; omega
    | some e => have := h e (List.mem_of_getElem? he); show _ + e.size ≤ _; omega
theorem zbld (w : World) : (Instr.alloc 57 true (.tuple #[])).run Tryd.prog w = .ok (.pointer (some ⟨w.heap.size, 0, none⟩)) (w.alloc (.cells #[.pointer none, .slice none 0 0] 57)) := by kernel_rfl

theorem sep_len : (Lib.strCells (⟨#[32]⟩ : ByteArray)).length = 1 := by rw [Lib.strCells_eq, Lib.byteCells_length]; rfl
theorem len6 {bs : List Value} {e : ByteArray} (h : bs.length ≤ 84) (he : e.size ≤ 20) : (bs ++ Lib.strCells (⟨#[32]⟩ : ByteArray)).length + e.size ≤ 140737488355328 := by
  rw [List.length_append, sep_len]; omega
theorem WriteSep (B b : Nat) (bs : List Value) (w : World) (h : Lib.IsBuilderF 57 5 B b bs w) (hlen : bs.length ≤ 84) (hBw : B ≤ w.heap.size) :
    Calls Tryd.prog 26 #[.pointer (some ⟨b, 0, none⟩), .string ⟨#[32]⟩] w fun e w' => e = .returned (.tuple #[.int .i64 1, .nilIface]) ∧ (Lib.BuilderAtF 57 5 B b (.pointer (some ⟨b, 0, none⟩)) (bs ++ Lib.strCells ⟨#[32]⟩) w' ∧ Below B w w' ∧ Lib.OthersKept 5 (some b) w w') := by
  have hl : bs.length + (⟨#[32]⟩ : ByteArray).size ≤ 140737488355328 := by rw [s32]; omega
  exact WriteString_any B b bs ⟨#[32]⟩ w h hl hBw

def J1Rel (w : World) (v5 _v7 v41 : Value) (wr : World) : Prop := ∃ j m : Nat, j ≤ 4 ∧ v41 = .int .i64 j ∧ v5 = .int .i64 m ∧ 3 ≤ m ∧ m ≤ 3 + 20 * j ∧ Below w.heap.size w wr
def J2Rel (L : List ByteArray) (b : Nat) (w : World) (_v10 v65 : Value) (wr : World) : Prop :=
  ∃ j : Nat, j ≤ 3 ∧ v65 = .int .i64 j ∧ Lib.IsBuilderF 57 5 w.heap.size b (Lib.byteCells (jn L j).data.toList) wr ∧ Below w.heap.size w wr

set_option maxRecDepth 100000 in
set_option maxHeartbeats 3200000 in
theorem Join4 (L : List ByteArray) (g : Nat) (w : World) (h4 : L.length = 4) (hs : ∀ e ∈ L, e.size ≤ 20) (hg : Blk w g (L.map Value.string).toArray 9) :
    Calls Tryd.prog 30 #[.slice (some ⟨g, 0, none⟩) 4 4, .string ⟨#[32]⟩] w fun e w' => e = .returned (.string (jn L 3)) ∧ Below w.heap.size w w' := by
  have HC : Hid (∀ wr, Below w.heap.size w wr → ∀ j e, L[j]? = some e → wr.cell? ⟨g, j, none⟩ = some (.string e)) :=
    fun wr hb j e he => (hg.later hb).at (by simp [he])
  have HS := Lib.hid hs
  have H4 := Lib.hid h4
  have HZ := Lib.hid (jn_size hs)
  clear hg hs h4
  go_enter Tryd.func30, Tryd.ntmps30
  go_wp2_with fail
  go_loopw [5, 7, 41] (fun v5 v7 v41 wr => J1Rel w v5 v7 v41 wr) (fun v5 v7 v41 _ => 4 - (intOf v41).toNat)
  case atStart => exact ⟨0, 3, by omega, rfl, rfl, by omega, by omega, Below.refl _ _⟩
  case round =>
    obtain ⟨j, m, hj, rfl, rfl, hm, hm2, hB⟩ := hrel
    have HB := Lib.hid hB
    clear hB
    by_cases hlt : j < 4
    · obtain ⟨e, he⟩ : ∃ e, L[j]? = some e := ⟨_, List.getElem?_eq_getElem (by rw [H4.out]; exact hlt)⟩
      have j1 : (j : Int) < 4 := by omega
      have c1 := HC.out wr HB.out j e he
      have es := HS.out e (List.mem_of_getElem? he)
      clear he
      go_wp2_with fail
      go_roundw
      case rel => exact ⟨j + 1, m + e.size, by omega, by go_num, by go_num, by omega, by omega, HB.out⟩
      case measure => simp [intOf]; omega
    · have j1 : ¬ (j : Int) < 4 := by omega
      obtain rfl : j = 4 := by omega
      go_wp2_with ((with_reducible refine wpList_new zbld ?_))
      intro b wB hB1 hB2 hB3 hB4
      have HBB := Lib.hid (below_next HB.out hB4)
      have hbB : w.heap.size ≤ b := Nat.le_trans HB.out.size hB1
      obtain ⟨e0, he0⟩ : ∃ e, L[0]? = some e := ⟨_, List.getElem?_eq_getElem (by rw [H4.out]; decide)⟩
      go_wp2_with (go_at_call 57; refine (Grow_fresh w.heap.size b m _ hbB hB3 HBB.out.size (by omega) (by omega)).mono ?_; rintro e w2 ⟨rfl, h2, hb2⟩; have HI2 := Lib.hid h2; have HX2 := Lib.hid (HBB.out.trans hb2); have c0 := HC.out w2 HX2.out 0 e0 he0)
      have es0 := HS.out e0 (List.mem_of_getElem? he0)
      clear h2 hb2 hB1 hB2 hB3 hB4
      go_wp2_with (go_at_call 26; refine (WriteString_any w.heap.size b _ e0 _ HI2.out (by simp; omega) HX2.out.size).mono ?_; rintro e3 w3 ⟨rfl, h3, b3, k3⟩)
      have HI3 : Hid (Lib.IsBuilderF 57 5 w.heap.size b (Lib.byteCells (jn L 0).data.toList) w3) := by
        have h8 := Or.inr (a := Lib.BuilderAtF 57 5 w.heap.size b (.pointer none) ([] ++ Lib.strCells e0) w3) h3
        rw [List.nil_append, Lib.strCells_eq] at h8
        show Lib.IsBuilderF _ _ _ _ (Lib.byteCells ((L[0]?).getD (⟨#[]⟩ : ByteArray)).data.toList) w3
        rw [he0]
        exact h8
      have HX3 := Lib.hid (HX2.out.trans b3)
      clear h3 b3 k3 he0 c0 es0
      go_wp2_with fail
      go_loopw [10, 65] (fun v10 v65 wr => J2Rel L b w v10 v65 wr) (fun v10 v65 _ => 3 - (intOf v65).toNat)
      case atStart => exact ⟨0, by omega, rfl, HI3.out, HX3.out⟩
      case round =>
        obtain ⟨j, hj, rfl, hI, hB⟩ := hrel
        have HI := Lib.hid hI
        have HB5 := Lib.hid hB
        clear hI hB
        by_cases hlt : j < 3
        · obtain ⟨e, he⟩ : ∃ e, L[j + 1]? = some e := ⟨_, List.getElem?_eq_getElem (by rw [H4.out]; omega)⟩
          have j1 : (j : Int) < 3 := by omega
          have c1 := HC.out _ HB5.out (1 + j) e (by rw [Nat.add_comm]; exact he)
          have es := HS.out e (List.mem_of_getElem? he)
          have HLN : Hid ((Lib.byteCells (jn L j).data.toList).length ≤ 84) := by
            show _ ≤ _
            rw [Lib.byteCells_length, Array.length_toList]
            have := HZ.out j
            have e2 : (jn L j).size = (jn L j).data.size := rfl
            omega
          have HM := Lib.hid (jn_more he)
          clear he
          go_wp2_with fail
          refine (WriteSep w.heap.size b _ _ HI.out HLN.out HB5.out.size).mono ?_
          rintro e5 w5 ⟨rfl, h5, b5, k5⟩
          have HI6 := Lib.hid (Or.inr (a := Lib.BuilderAtF 57 5 w.heap.size b (.pointer none) (Lib.byteCells (jn L j).data.toList ++ Lib.strCells ⟨#[32]⟩) w5) h5)
          have HX6 := Lib.hid (HB5.out.trans b5)
          clear h5 b5 k5
          have hl6 := len6 (bs := Lib.byteCells (jn L j).data.toList) HLN.out es
          go_wp2_with fail
          refine (WriteString_any w.heap.size b _ e _ HI6.out hl6 HX6.out.size).mono ?_
          rintro e7 w7 ⟨rfl, h7, b7, k7⟩
          have HI8 : Hid (Lib.IsBuilderF 57 5 w.heap.size b (Lib.byteCells (jn L (j + 1)).data.toList) w7) := by
            have h8 := Or.inr (a := Lib.BuilderAtF 57 5 w.heap.size b (.pointer none) (Lib.byteCells (jn L j).data.toList ++ Lib.strCells ⟨#[32]⟩ ++ Lib.strCells e) w7) h7
            rw [bytes_more, bytes_more, HM.out] at h8
            exact h8
          have HX8 := Lib.hid (HX6.out.trans b7)
          clear h7 b7 k7
          go_wp2_with fail
          go_roundw
          case rel => exact ⟨j + 1, by omega, by go_num, HI8.out, HX8.out⟩
          case measure => simp [intOf]; omega
        · have j1 : ¬ (j : Int) < 3 := by omega
          obtain rfl : j = 3 := by omega
          go_wp2_with (go_at_call 32; refine (Tryd.Builder_String_any_k _ _ _ _ HI.out HB5.out.size).mono ?_; rintro e w1 ⟨rfl, h1, h2, h3⟩)
          go_ret
          exact ⟨rfl, HB5.out.trans h2⟩
end Go.Proofs.YtekemhibnokhcaaDoor
