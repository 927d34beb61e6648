/- The text of readings, by the program and by the reference. -/
import Derived.Test.YtonmdkhfongmhaaDoorDdec
import Derived.Test.YtonmdkhfongmhaaDoorShelf
namespace Go.Proofs.YtonmdkhfongmhaaDoor
open Go.RowKit

/-- The library's table of powers of ten lies as it should. -/
def Tab (w : World) : Prop := Lib.TabIs Tryd.prog w "internal/strconv.uint64pow10" .u64 Lib.pow10Tab
theorem Tab.later {w w' : World} (h : Tab w) (hb : Below w.heap.size w w') : Tab w' := by
  unfold Tab Lib.TabIs World.var? at *
  cases hg : Tryd.prog.globalNamed "internal/strconv.uint64pow10" with
  | none => rw [hg] at h; cases h
  | some g =>
    rw [hg] at h
    simp only [Option.bind_some] at h ⊢
    have hlt : g < w.heap.size := by
      rcases Nat.lt_or_ge g w.heap.size with h' | h'
      · exact h'
      · rw [Array.getElem?_eq_none h'] at h; cases h
    rw [hb.block g hlt]
    exact h
theorem below_grows (w : World) (os : Array Obj) : Below w.heap.size w (Sort.grow w os) :=
  ⟨rfl, rfl, rfl, by simp [Sort.grow], fun i hi => by simp [Sort.grow, Array.getElem?_append, hi]⟩
set_option maxHeartbeats 400000 in
theorem decimal_any (n : Int) (h0 : -9223372036854775808 ≤ n) (h1 : n ≤ 9223372036854775807) (w : World) (ht : Tab w) :
    Calls Tryd.prog 20 #[.int .i64 n] w fun e w' => e = .returned (.string (itoS n)) ∧ Below w.heap.size w w' := by
  go_enter Tryd.func20, Tryd.ntmps20
  go_wp2_with (go_at_call 24; refine (Tryd.strconv_FormatInt_10 n h0 h1 w ht).mono ?_; rintro e w1 ⟨rfl, k, os, rfl⟩)
  go_ret
  exact ⟨rfl, below_next (below_drawn (Below.refl _ _) _) (below_grows _ _)⟩

/-- A reading's line. -/
def lineS (e : Rd) : ByteArray := itoS e.t ++ ⟨#[32]⟩ ++ itoS e.l ++ ⟨#[10]⟩
/-- The lines of the first readings. -/
def txtK (l : List Rd) : Nat → ByteArray
  | 0 => ⟨#[]⟩
  | k + 1 => match l[k]? with
    | some e => txtK l k ++ lineS e
    | none => txtK l k
theorem txtK_more {l : List Rd} {k : Nat} {e : Rd} (h : l[k]? = some e) : txtK l (k + 1) = txtK l k ++ lineS e := by
  show (match l[k]? with | some e => txtK l k ++ lineS e | none => txtK l k) = _
  rw [h]
theorem s32 : (⟨#[32]⟩ : ByteArray).size = 1 := rfl
theorem s10 : (⟨#[10]⟩ : ByteArray).size = 1 := rfl
theorem line_size {e : Rd} (h : e.Rng) (h1 : 1 ≤ e.t) : (lineS e).size ≤ 42 := by
  obtain ⟨⟨a1, a2⟩, b1, b2⟩ := h
  unfold lineS
  have h3 := itoS_size (n := e.t) (by omega) (by omega)
  have h4 := itoS_size (n := e.l) (by omega) (by omega)
  simp only [ByteArray.size_append, s32, s10]
  omega
theorem txt_size {l : List Rd} (hl : ∀ e ∈ l, (lineS e).size ≤ 42) : ∀ k, (txtK l k).size ≤ 42 * k
  | 0 => Nat.le_refl _
  | k + 1 => by
    have := txt_size hl k
    cases h : l[k]? with
    | none => rw [show txtK l (k + 1) = txtK l k by show (match l[k]? with | some e => txtK l k ++ lineS e | none => txtK l k) = _; rw [h]]; omega
    | some e =>
      rw [txtK_more h, ByteArray.size_append]
      have := hl e (List.mem_of_getElem? h)
      omega

theorem str_add {a b c : ByteArray} (h : a ++ b = c) (hs : a.size + b.size ≤ 9223372036854775807) : ∀ w : World, (Op.stringOp .add a b).run Tryd.prog w = .ok (.string c) w := by
  intro w
  rw [← h]
  exact run_string_add_sum w a b hs

def TxRel (l : List Rd) (w : World) (v3 v4 : Value) (wr : World) : Prop := ∃ j : Nat, j ≤ l.length ∧ v4 = .int .i64 j ∧ v3 = .string (txtK l j) ∧ Below w.heap.size w wr

set_option maxRecDepth 100000 in
set_option maxHeartbeats 1600000 in
theorem l04Text_any (v : Value) (l : List Rd) (w : World) (hlen : l.length ≤ 40) (hok : ∀ e ∈ l, 1 ≤ e.t) (hv : RAt w v l) :
    Calls Tryd.prog 10 #[v] w fun e w' => e = .returned (.string (txtK l l.length)) ∧ Below w.heap.size w w' := by
  obtain ⟨aL, cap, rfl, hL⟩ := hv
  have HL := Lib.hid hL
  have HK := Lib.hid hok
  have HSZ : Hid (∀ k, (txtK l k).size ≤ 42 * k) := by
    show ∀ _, _
    refine txt_size fun e he => ?_
    obtain ⟨j, hj, rfl⟩ := List.getElem_of_mem he
    exact line_size (hL j _ (List.getElem?_eq_getElem hj)).1 (hok _ he)
  clear hL hok
  go_enter Tryd.func10, Tryd.ntmps10
  go_wp2_with fail
  go_loopw [3, 4] (fun v3 v4 wr => TxRel l w v3 v4 wr) (fun _ v4 _ => l.length - (intOf v4).toNat)
  case atStart => exact ⟨0, by omega, rfl, rfl, Below.refl _ _⟩
  case round =>
    obtain ⟨j, hj, rfl, rfl, hBB⟩ := hrel
    have HB := Lib.hid hBB
    clear hBB
    by_cases hlt : j < l.length
    · obtain ⟨e, he⟩ : ∃ e, l[j]? = some e := ⟨_, List.getElem?_eq_getElem hlt⟩
      obtain ⟨hrng, gq, rfl, hq⟩ := HL.out j e he
      have ht1 := HK.out e (List.mem_of_getElem? he)
      obtain ⟨n, hn⟩ : ∃ n : Nat, e.t = (n : Int) := ⟨e.t.toNat, by omega⟩
      have hQ := range_below hq HB.out
      have c0 : wr.cell? ⟨gq, j * 2, none⟩ = some (.int .i64 (n : Int)) := by
        have := hQ 0 (.int .i64 e.t) rfl
        rw [← hn]; exact this
      have c1 : wr.cell? ⟨gq, j * 2 + 1, none⟩ = some (.int .i16 e.l) := hQ 1 (.int .i16 e.l) rfl
      have j1 : (j : Int) < (l.length : Int) := by omega
      have j0 : (0 : Int) ≤ (j : Int) := by omega
      have hn2 : n < 9223372036854775808 := by have := hrng.1.2; omega
      have hl1 : -9223372036854775807 ≤ e.l := by have := hrng.2.1; omega
      have hl2 : e.l ≤ 9223372036854775807 := by have := hrng.2.2; omega
      have wl : IntKind.i64.wrap e.l = e.l := by simp only [IntKind.wrap, IntKind.bits, IntKind.signed]; simp; omega
      have HS : Hid (∀ w', Below wr.heap.size wr w' → w'.cell? ⟨gq, j * 2, none⟩ = some (.int .i64 (n : Int)) ∧ w'.cell? ⟨gq, j * 2 + 1, none⟩ = some (.int .i16 e.l)) :=
        fun w' hb => ⟨cell_below hb c0, cell_below hb c1⟩
      have HM : Hid (txtK l j ++ (decS n ++ ⟨#[32]⟩ ++ itoS e.l ++ ⟨#[10]⟩) = txtK l (j + 1)) := by
        show _ = _
        rw [txtK_more he]
        unfold lineS
        rw [hn, ← itoS_pos (n := (n : Int)) (by omega)]
        rfl
      have z0 := HSZ.out j
      have z1 := decS_size hn2
      have z2 := itoS_size hl1 hl2
      have HE := Lib.hid he
      generalize hT : txtK l j = T at *
      generalize hD : decS n = D at *
      generalize hI : itoS e.l = I at *
      have HD := Lib.hid hD
      have HI := Lib.hid hI
      obtain ⟨S1, e1⟩ : ∃ S, D ++ (⟨#[32]⟩ : ByteArray) = S := ⟨_, rfl⟩
      obtain ⟨S2, e2⟩ : ∃ S, S1 ++ I = S := ⟨_, rfl⟩
      obtain ⟨S3, e3⟩ : ∃ S, S2 ++ (⟨#[10]⟩ : ByteArray) = S := ⟨_, rfl⟩
      have y1 : S1.size ≤ 20 := by rw [← e1, ByteArray.size_append, s32]; omega
      have y2 : S2.size ≤ 40 := by rw [← e2, ByteArray.size_append]; omega
      have y3 : S3.size ≤ 41 := by rw [← e3, ByteArray.size_append, s10]; omega
      have r1 := str_add e1 (by rw [s32]; omega)
      have r2 := str_add e2 (by omega)
      have r3 := str_add e3 (by rw [s10]; omega)
      have r4 := str_add (show T ++ S3 = txtK l (j + 1) by rw [← HM.out, ← e3, ← e2, ← e1]) (by omega)
      have HT := Lib.hid hT
      clear e1 e2 e3 y1 y2 y3 HM hT
      clear he hq hD hI hQ z0 z1 z2 hrng
      go_wp2_with fail
      go_region_held3 (fun w' => w'.cell? ⟨gq, j * 2, none⟩ = some (.int .i64 (n : Int)) ∧ w'.cell? ⟨gq, j * 2 + 1, none⟩ = some (.int .i16 e.l)) (first | exact ⟨c0, c1⟩ | exact HS.out _ (below_next (below_drew (Below.refl wr.heap.size wr)) hb5) | exact HS.out _ (below_next (below_next (below_drew (Below.refl wr.heap.size wr)) hb5) hb6) | go_keep) (first | (go_at_call 16; refine (Decimal_any n hn2 _).mono ?_; rintro e5 w5 ⟨rfl, hb5⟩; rw [HD.out]) | (go_at_call 17; refine (Signed_any e.l hl1 hl2 _).mono ?_; rintro e6 w6 ⟨rfl, hb6⟩; rw [HI.out]))
      go_wp2_with fail
      go_roundw
      case rel => exact ⟨j + 1, by omega, by go_num, rfl, below_next HB.out (below_next (below_next (below_drew (Below.refl wr.heap.size wr)) hb5) hb6)⟩
      case measure => simp [intOf]; omega
    · have j1 : ¬ (j : Int) < (l.length : Int) := by omega
      obtain rfl : j = l.length := by omega
      go_wp2_with fail
      go_ret
      exact ⟨rfl, HB.out⟩

end Go.Proofs.YtonmdkhfongmhaaDoor
