/- The text of a ground by the program. -/
import Derived.Test.YtekemhibnokhcaaDoorDgm
import Derived.Test.YtekemhibnokhcaaDoorDjoin
namespace Go.Proofs.YtekemhibnokhcaaDoor
open Go.RowKit

def txtL (g : G) (l : List Nat) : ByteArray := l.foldl (fun s c => s ++ lineG g c) (headG g)
theorem txtL_more {g : G} {l : List Nat} {j c : Nat} (h : l[j]? = some c) : txtL g (l.take j) ++ lineG g c = txtL g (l.take (j + 1)) := by
  rw [take_more h]
  simp [txtL, List.foldl_append]
theorem txtL_cells (g : G) : ∀ k, txtL g (cellsTo g.wide g.high k) = txtG g k
  | 0 => rfl
  | k + 1 => by
    cases h : hasB g.wide g.high k
    · rw [cellsTo_no h, txtG_no h, txtL_cells g k]
    · rw [cellsTo_yes h, txtG_yes h, ← txtL_cells g k]
      simp [txtL, List.foldl_append]
theorem txtL_size {g : G} (hr : g.Rng) (l : List Nat) : ∀ j, (txtL g (l.take j)).size ≤ 42 + 33 * j
  | 0 => by rw [List.take_zero]; exact headG_size hr
  | j + 1 => by
    have h1 := txtL_size hr l j
    cases h : l[j]? with
    | none =>
      have : l.take (j + 1) = l.take j := by
        rw [List.take_of_length_le (by have := List.getElem?_eq_none_iff.1 h; omega), List.take_of_length_le (List.getElem?_eq_none_iff.1 h)]
      rw [this]; omega
    | some c =>
      rw [← txtL_more h, ByteArray.size_append]
      have := lineG_size g c
      omega

/-- A list of numbers lies in rows of its own. -/
def LAt2 (w : World) (a : Option Addr) (base : Nat) (l : List Nat) : Prop :=
  ∀ (j c : Nat), l[j]? = some c → ∃ gq cs, a = some ⟨gq, 0, none⟩ ∧ base ≤ gq ∧ Blk w gq cs 3 ∧ cs[j]? = some (.int .i64 c)
theorem list_blk {w : World} {base : Nat} {v : Value} {l : List Nat} (h : w.ownsRow base 3 1 v l.length (ints l)) :
    ∃ a cap, v = .slice a l.length cap ∧ LAt2 w a base l := by
  obtain ⟨h1, h2 | ⟨g, cap, cur, rfl, hb, hg, h3, h4, h5, h6⟩⟩ := h
  · obtain ⟨rfl, h0⟩ := h2
    refine ⟨none, 0, by rw [h0], fun j c hc => ?_⟩
    have : l = [] := List.eq_nil_of_length_eq_zero h0
    subst this; cases hc
  · refine ⟨_, cap, rfl, fun j c hc => ⟨g, cur, rfl, hb, hg, ?_⟩⟩
    have hj : j < l.length := (List.getElem?_eq_some_iff.1 hc).1
    have h7 : (ints l)[j]? = some (.int .i64 c) := by simp [ints, hc]
    rw [← h6, List.getElem?_take, if_pos (by omega)] at h7
    simpa using h7
theorem LAt2.later {w w' : World} {a : Option Addr} {base : Nat} {l : List Nat} (h : LAt2 w a base l) (hb : Below w.heap.size w w') : LAt2 w' a base l :=
  fun j c hc => let ⟨gq, cs, h1, h2, h3, h4⟩ := h j c hc; ⟨gq, cs, h1, h2, h3.later hb, h4⟩
theorem LAt2.kept {w w' : World} {a : Option Addr} {base b : Nat} {l : List Nat} (h : LAt2 w a base l) (hk : Lib.OthersKept 5 (some b) w w') (hb : b < base) : LAt2 w' a base l :=
  fun j c hc => let ⟨gq, cs, h1, h2, h3, h4⟩ := h j c hc; ⟨gq, cs, h1, h2, kept_blk hk h3 (by omega) (by decide), h4⟩

def GiRel (g : G) (a : Option Addr) (base bb : Nat) (w4 : World) (v28 _v5 _v6 : Value) (wr : World) : Prop :=
  ∃ j : Nat, j ≤ (cellsTo g.wide g.high 64).length ∧ v28 = .int .i64 j ∧ Lib.IsBuilderF 57 5 bb bb (Lib.byteCells (txtL g ((cellsTo g.wide g.high 64).take j)).data.toList) wr ∧ LAt2 wr a base (cellsTo g.wide g.high 64) ∧ Below bb w4 wr

set_option maxRecDepth 100000 in
set_option maxHeartbeats 3200000 in
theorem GroundText_bad (g : G) (w : World) (hr : g.Rng) (h32 : g.B32) (hbad : (okI g.m && bareTo g 64) = false) :
    Calls Tryd.prog 12 #[.agg (arrG g)] w fun e w' => e = .returned (.string ⟨#[]⟩) ∧ Below w.heap.size w w' := by
  cases hok : okI g.m
  · have HOK := Lib.hid hok
    clear hok
    go_enter Tryd.func12, Tryd.ntmps12
    go_wp2_with (with_reducible refine wpList_box rfl ?_)
    intro B w1 hB1 hB2 hB3 hB4
    go_wp2_with ((with_reducible refine wpList_getG hB3 ?_ ?_); rfl)
    refine (ValidGround_any g w1 hr).mono ?_
    rw [HOK.out]
    rintro e w3 ⟨rfl, hb3⟩
    have HB := Lib.hid (hB4.trans (hb3.mono hB4.size))
    clear hB3 hB4 hb3
    go_wp2_with fail
    go_ret
    exact ⟨rfl, HB.out⟩
  · have hba : bareTo g 64 = false := by rw [hok] at hbad; exact hbad
    have HOK := Lib.hid hok
    have HBA := Lib.hid hba
    clear hok hba
    go_enter Tryd.func12, Tryd.ntmps12
    go_wp2_with (with_reducible refine wpList_box rfl ?_)
    intro B w1 hB1 hB2 hB3 hB4
    go_wp2_with ((with_reducible refine wpList_getG hB3 ?_ ?_); rfl)
    refine (ValidGround_any g w1 hr).mono ?_
    rw [HOK.out]
    rintro e w3 ⟨rfl, hb3⟩
    have HG3 := hB3.later hb3
    have HB := Lib.hid (hB4.trans (hb3.mono hB4.size))
    clear hB3 hB4 hb3
    go_wp2_with fail
    refine (hasMinus_any B 0 g w3 HOK.out h32 (GAt.of_blk HG3)).mono ?_
    rw [HBA.out]
    rintro e w4 ⟨rfl, hb4⟩
    have HB4 := Lib.hid (HB.out.trans (hb4.mono HB.out.size))
    clear hb4 HG3
    go_wp2_with fail
    go_ret
    exact ⟨rfl, HB4.out⟩

set_option maxRecDepth 100000 in
set_option maxHeartbeats 3200000 in
theorem GroundText_good (g : G) (w : World) (hr : g.Rng) (hx : g.Fx) (h32 : g.B32) (hok : okI g.m = true) (hba : bareTo g 64 = true) (ht : Tab w) (hz : TabZ w) :
    Calls Tryd.prog 12 #[.agg (arrG g)] w fun e w' => e = .returned (.string (txtG g 64)) ∧ Below w.heap.size w w' := by
  have HOK := Lib.hid hok
  have HBA := Lib.hid hba
  have HS := Lib.hid (sane_of hok hx)
  have H32 := Lib.hid h32
  have HSZ := Lib.hid (txtL_size hr (cellsTo g.wide g.high 64))
  have HT0 := Lib.hid ht
  have HZ0 := Lib.hid hz
  have HEND := Lib.hid (txtL_cells g 64)
  clear hok hba ht hz h32
  go_enter Tryd.func12, Tryd.ntmps12
  go_wp2_with (with_reducible refine wpList_box rfl ?_)
  intro B w1 hB1 hB2 hB3 hB4
  go_wp2_with ((with_reducible refine wpList_getG hB3 ?_ ?_); rfl)
  refine (ValidGround_any g w1 hr).mono ?_
  rw [HOK.out]
  rintro e w3 ⟨rfl, hb3⟩
  have HG3 := hB3.later hb3
  have HB := Lib.hid (hB4.trans (hb3.mono hB4.size))
  clear hB3 hB4 hb3
  go_wp2_with fail
  refine (hasMinus_any B 0 g w3 HOK.out H32.out (GAt.of_blk HG3)).mono ?_
  rw [HBA.out]
  rintro e w4 ⟨rfl, hb4⟩
  have HG4 := HG3.later hb4
  have HB4 := Lib.hid (HB.out.trans (hb4.mono HB.out.size))
  clear hb4 HG3 HB
  go_wp2_with fail
  have hBb : B < w4.heap.size := HG4.lt
  have HGB := Lib.hid HG4
  have HIA : Hid (Lib.IsBuilderF 57 5 w4.heap.size w4.heap.size [] (w4.alloc (.cells #[.pointer none, .slice none 0 0] 57))) := Lib.hid (Lib.IsBuilderF.of (Lib.fresh_isBuilder _ _ w4))
  have HGA := Lib.hid (HG4.alloc (.cells #[.pointer none, .slice none 0 0] 57))
  have HXA := Lib.hid ((Below.refl w4.heap.size w4).alloc (Nat.le_refl _) (.cells #[.pointer none, .slice none 0 0] 57))
  generalize w4.alloc (.cells #[.pointer none, .slice none 0 0] 57) = wA at *
  have HWA := Lib.hid (below_next HB4.out HXA.out)
  have HT : Hid (∀ w', Below w.heap.size w w' → Tab w') := fun w' hb => HT0.out.later hb
  have HZ : Hid (∀ w', Below w.heap.size w w' → TabZ w') := fun w' hb => tabs_later HZ0.out hb
  have hszA := HXA.out.size
  obtain ⟨⟨x0, x1⟩, y0, y1⟩ := hr
  have z1 := itoS_size (n := g.wide) (by omega) (by omega)
  have z2 := itoS_size (n := g.high) (by omega) (by omega)
  have x3 : -9223372036854775808 ≤ g.wide := by omega
  have x4 : g.wide ≤ 9223372036854775807 := by omega
  have y3 : -9223372036854775808 ≤ g.high := by omega
  have y4 : g.high ≤ 9223372036854775807 := by omega
  have wx : IntKind.i64.wrap g.wide = g.wide := by simp only [IntKind.wrap, IntKind.bits, IntKind.signed]; simp; omega
  have wy : IntKind.i64.wrap g.high = g.high := by simp only [IntKind.wrap, IntKind.bits, IntKind.signed]; simp; omega
  have HHD : Hid (itoS g.wide ++ (⟨#[32]⟩ : ByteArray) ++ itoS g.high ++ (⟨#[10]⟩ : ByteArray) = headG g) := rfl
  have HSS : Hid (∀ w', Below wA.heap.size wA w' → w'.cell? ⟨B, 0, none⟩ = some (.int .i8 g.wide) ∧ w'.cell? ⟨B, 1, none⟩ = some (.int .i8 g.high)) :=
    fun w' hb => ⟨(GAt.of_blk (HGA.out.later hb)).wide, (GAt.of_blk (HGA.out.later hb)).high⟩
  generalize hD : itoS g.wide = D at *
  generalize hI : itoS g.high = I at *
  have HCX : Hid (∀ w', Tab w' → Calls Tryd.prog 27 #[.int .i64 g.wide] w' fun e w'' => e = .returned (.string D) ∧ Below w'.heap.size w' w'') := fun w' h => by rw [← hD]; exact decimal_any g.wide x3 x4 w' h
  have HCY : Hid (∀ w', Tab w' → Calls Tryd.prog 27 #[.int .i64 g.high] w' fun e w'' => e = .returned (.string I) ∧ Below w'.heap.size w' w'') := fun w' h => by rw [← hI]; exact decimal_any g.high y3 y4 w' h
  obtain ⟨S1, e1⟩ : ∃ S, D ++ (⟨#[32]⟩ : ByteArray) = S := ⟨_, rfl⟩
  obtain ⟨S2, e2⟩ : ∃ S, S1 ++ I = S := ⟨_, rfl⟩
  obtain ⟨S3, e3⟩ : ∃ S, S2 ++ (⟨#[10]⟩ : ByteArray) = S := ⟨_, rfl⟩
  have q1 : S1.size ≤ 21 := by rw [← e1, ByteArray.size_append, s32]; omega
  have q2 : S2.size ≤ 41 := by rw [← e2, ByteArray.size_append]; omega
  have q3 : S3.size ≤ 42 := by rw [← e3, ByteArray.size_append, s10]; omega
  have r1 := str_add e1 (by rw [s32]; omega)
  have r2 := str_add e2 (by omega)
  have r3 := str_add e3 (by rw [s10]; omega)
  have HM : Hid (S3 = headG g) := by show _ = _; rw [← HHD.out, ← e3, ← e2, ← e1]
  have hl0 : ([] : List Value).length + S3.size ≤ 140737488355328 := by rw [List.length_nil]; omega
  clear e1 e2 e3 q1 q2 q3 hD hI z1 z2 x0 x1 y0 y1 x3 x4 y3 y4 HHD HG4
  obtain ⟨c0, c1⟩ := HSS.out wA (Below.refl _ _)
  go_region_held3 (fun w' => w'.cell? ⟨B, 0, none⟩ = some (.int .i8 g.wide) ∧ w'.cell? ⟨B, 1, none⟩ = some (.int .i8 g.high)) (first | exact ⟨c0, c1⟩ | exact HSS.out _ (below_next (below_dr (Below.refl wA.heap.size wA)) hb5) | exact HSS.out _ (below_next (below_next (below_dr (Below.refl wA.heap.size wA)) hb5) hb6) | exact ⟨(GAt.of_blk hB7).wide, (GAt.of_blk hB7).high⟩ | go_keep) (first | (go_at_call 27; (with_reducible refine (HCX.out _ (HT.out _ (below_dr HWA.out))).mono ?_); rintro e5 w5 ⟨rfl, hb5⟩) | (go_at_call 27; (with_reducible refine (HCY.out _ (HT.out _ (below_next (below_dr HWA.out) hb5))).mono ?_); rintro e6 w6 ⟨rfl, hb6⟩) | (go_at_call 26; refine (WriteString_any w4.heap.size w4.heap.size _ S3 _ (IsB.later (IsB.later (IsB.later HIA.out (below_dr (Below.refl wA.heap.size wA))) hb5) hb6) hl0 (Nat.le_trans hszA (Nat.le_trans hb5.size hb6.size))).mono ?_; rintro e7 w7 ⟨rfl, h7, b7, k7⟩; have hB7 := (((HGA.out.later (below_dr (Below.refl wA.heap.size wA))).later (below_next hb5 hb6)).below b7 hBb)))
  have HI7 : Hid (Lib.IsBuilderF 57 5 w4.heap.size w4.heap.size (Lib.byteCells (headG g).data.toList) w7) := by
    have h8 := Or.inr (a := Lib.BuilderAtF 57 5 w4.heap.size w4.heap.size (.pointer none) ([] ++ Lib.strCells S3) w7) h7
    rw [List.nil_append, Lib.strCells_eq, HM.out] at h8
    exact h8
  have HX7 := Lib.hid ((below_next (below_next (below_dr HXA.out) hb5) hb6).trans b7)
  have HG7 := Lib.hid hB7
  clear h7 b7 k7 hB7 hb5 hb6 c0 c1 HSS HCX HCY r1 r2 r3 hl0 HIA HGA HXA HM
  go_wp2_with fail
  refine (cells_any B 0 g w7 HS.out.rng (GAt.of_blk HG7.out)).mono ?_
  rintro e w8 ⟨v, rfl, hown, hb8⟩
  obtain ⟨aL, cap, rfl, hL⟩ := list_blk hown
  have HL := Lib.hid hL
  have hbase : w4.heap.size < w7.heap.size := by rcases HI7.out with h | h <;> exact h.lt
  have HI8 := Lib.hid (IsB.later HI7.out hb8)
  have HX8 := Lib.hid (below_next HX7.out hb8)
  clear hL hown hb8 HI7 HX7 HG7
  generalize w7.heap.size = base at *
  go_wp2_with fail
  go_loopw [28, 5, 6] (fun v28 v5 v6 wr => GiRel g aL base w4.heap.size w4 v28 v5 v6 wr) (fun v28 _ _ _ => (cellsTo g.wide g.high 64).length - (intOf v28).toNat)
  case atStart => exact ⟨0, by omega, rfl, HI8.out, HL.out, HX8.out⟩
  case round =>
    obtain ⟨j, hj, rfl, hI, hL, hB⟩ := hrel
    have HI := Lib.hid hI
    have HB9 := Lib.hid hB
    have HLR := Lib.hid hL
    have HWR := Lib.hid (below_next HB4.out hB)
    have HGR := Lib.hid (HGB.out.later hB)
    clear hI hB hL HI8 HX8 HL
    by_cases hlt : j < (cellsTo g.wide g.high 64).length
    · obtain ⟨c, hc⟩ : ∃ c, (cellsTo g.wide g.high 64)[j]? = some c := ⟨_, List.getElem?_eq_getElem hlt⟩
      have hc64 : c < 64 := cellsTo_lt (List.mem_of_getElem? hc)
      have hj64 : j < 64 := Nat.lt_of_lt_of_le hlt (cellsTo_length _ _ _)
      obtain ⟨gq, cs, rfl, hq1, hq2, hq3⟩ := HLR.out j c hc
      have hcell := hq2.at hq3
      have HMORE := Lib.hid (txtL_more (g := g) hc)
      have hc64' : (c : Int) < 64 := by omega
      have hlt' : (j : Int) < ((cellsTo g.wide g.high 64).length : Int) := by omega
      clear hq3 hq2 hc
      go_wp2_with fail
      refine (fixed_any B 0 c g wr hc64 HS.out (GAt.of_blk HGR.out)).mono ?_
      rintro e w9 ⟨rfl, rfl⟩
      have z3 := hexS_size (nbit (g.c c))
      have z4 := hexS_size (nbit (g.g c))
      have z5 := hexS_size (nbit (g.h c))
      have z6 := wordS_size (fixB g.fixed c)
      have z7 := HSZ.out j
      have b1 := H32.out.bc c hc64
      have b2 := H32.out.bg c hc64
      have b3 := H32.out.bh c hc64
      have HLN : Hid ((Lib.byteCells (txtL g ((cellsTo g.wide g.high 64).take j)).data.toList).length ≤ 2154) := by
        show _ ≤ _
        rw [Lib.byteCells_length, Array.length_toList]
        have e2 : (txtL g ((cellsTo g.wide g.high 64).take j)).size = (txtL g ((cellsTo g.wide g.high 64).take j)).data.size := rfl
        omega
      have HMM : Hid (txtL g ((cellsTo g.wide g.high 64).take j) ++ (wordS (fixB g.fixed c) ++ (⟨#[32]⟩ : ByteArray) ++ hexS (nbit (g.c c)) ++ (⟨#[32]⟩ : ByteArray) ++ hexS (nbit (g.g c)) ++ (⟨#[32]⟩ : ByteArray) ++ hexS (nbit (g.h c)) ++ (⟨#[10]⟩ : ByteArray)) = txtL g ((cellsTo g.wide g.high 64).take (j + 1))) := HMORE
      have HSD : Hid (∀ w', Below w4.heap.size w4 w' → w'.cell? ⟨B, 2 + c, none⟩ = some (.float .f32 (g.c c)) ∧ w'.cell? ⟨B, 66 + c, none⟩ = some (.float .f32 (g.g c)) ∧ w'.cell? ⟨B, 130 + c, none⟩ = some (.float .f32 (g.h c))) := fun w' hb => by
        have hG := GAt.of_blk (HGB.out.later hb)
        have h1 := hG.c hc64
        have h2 := hG.g hc64
        have h3 := hG.h hc64
        simp only [Nat.zero_add] at h1 h2 h3
        exact ⟨h1, h2, h3⟩
      have HSC : Hid (∀ w', Below wr.heap.size wr w' → w'.cell? ⟨B, 2 + c, none⟩ = some (.float .f32 (g.c c)) ∧ w'.cell? ⟨B, 66 + c, none⟩ = some (.float .f32 (g.g c)) ∧ w'.cell? ⟨B, 130 + c, none⟩ = some (.float .f32 (g.h c))) := fun w' hb => HSD.out w' (below_next HB9.out hb)
      generalize hX1 : hexS (nbit (g.c c)) = X1 at *
      generalize hX2 : hexS (nbit (g.g c)) = X2 at *
      generalize hX3 : hexS (nbit (g.h c)) = X3 at *
      have HC1 : Hid (∀ w', TabZ w' → Calls Tryd.prog 31 #[.float .f32 (g.c c)] w' fun e w'' => e = .returned (.string X1) ∧ Below w'.heap.size w' w'') := fun w' h => by rw [← hX1]; exact NumberText_any _ b1 w' h
      have HC2 : Hid (∀ w', TabZ w' → Calls Tryd.prog 31 #[.float .f32 (g.g c)] w' fun e w'' => e = .returned (.string X2) ∧ Below w'.heap.size w' w'') := fun w' h => by rw [← hX2]; exact NumberText_any _ b2 w' h
      have HC3 : Hid (∀ w', TabZ w' → Calls Tryd.prog 31 #[.float .f32 (g.h c)] w' fun e w'' => e = .returned (.string X3) ∧ Below w'.heap.size w' w'') := fun w' h => by rw [← hX3]; exact NumberText_any _ b3 w' h
      clear hX1 hX2 hX3 b1 b2 b3 HMORE
      cases hf : fixB g.fixed c
      · rw [hf] at HMM z6
        clear hf
        go_wp2_with fail
        have HWS : Hid (∀ e ∈ [(⟨#[102, 114, 101, 101]⟩ : ByteArray), X1, X2, X3], e.size ≤ 20) := by
          show ∀ e ∈ _, _
          intro e he
          simp only [List.mem_cons, List.not_mem_nil, or_false] at he
          rcases he with rfl | rfl | rfl | rfl
          · exact Nat.le_trans z6 (by decide)
          · omega
          · omega
          · omega
        obtain ⟨J, hJ⟩ : ∃ J, jn [(⟨#[102, 114, 101, 101]⟩ : ByteArray), X1, X2, X3] 3 = J := ⟨_, rfl⟩
        have HJ : Hid (∀ (w' : World) (g' : Nat), Blk w' g' #[.string ⟨#[102, 114, 101, 101]⟩, .string X1, .string X2, .string X3] 9 → Calls Tryd.prog 30 #[.slice (some ⟨g', 0, none⟩) 4 4, .string ⟨#[32]⟩] w' fun e w'' => e = .returned (.string J) ∧ Below w'.heap.size w' w'') := fun w' g' hb => by rw [← hJ]; exact Join4 _ g' w' rfl HWS.out hb
        have q1 : J.size ≤ 84 := by rw [← hJ]; exact jn_size HWS.out 3
        obtain ⟨S7, e7⟩ : ∃ S, J ++ (⟨#[10]⟩ : ByteArray) = S := ⟨_, rfl⟩
        have q7 : S7.size ≤ 85 := by rw [← e7, ByteArray.size_append, s10]; omega
        have r7 := str_add e7 (by rw [s10]; omega)
        have HM2 : Hid (txtL g ((cellsTo g.wide g.high 64).take j) ++ S7 = txtL g ((cellsTo g.wide g.high 64).take (j + 1))) := by show _ = _; rw [← HMM.out, ← e7, ← hJ]; rfl
        have hl7 : (Lib.byteCells (txtL g ((cellsTo g.wide g.high 64).take j)).data.toList).length + S7.size ≤ 140737488355328 := by have := HLN.out; omega
        obtain ⟨d0, d1, d2⟩ := HSC.out wr (Below.refl _ _)
        clear HMM z3 z4 z5 z6 e7 q1 q7 hJ HWS
        go_region_held3 (fun w' => w'.cell? ⟨B, 2 + c, none⟩ = some (.float .f32 (g.c c)) ∧ w'.cell? ⟨B, 66 + c, none⟩ = some (.float .f32 (g.g c)) ∧ w'.cell? ⟨B, 130 + c, none⟩ = some (.float .f32 (g.h c))) (first | exact ⟨d0, d1, d2⟩ | exact HSC.out _ (below_next (below_dr (Below.refl wr.heap.size wr)) hb5) | exact HSC.out _ (below_next (below_next (below_dr (Below.refl wr.heap.size wr)) hb5) hb6) | exact HSC.out _ (below_next (below_next (below_next (below_dr (Below.refl wr.heap.size wr)) hb5) hb6) hb10) | exact HSC.out _ hAll | exact ⟨hB11.1, hB11.2.1, hB11.2.2⟩ | go_keep) (first | (go_at_call 31; (with_reducible refine (HC1.out _ (HZ.out _ (below_dr HWR.out))).mono ?_); rintro e5 w5 ⟨rfl, hb5⟩) | (go_at_call 31; (with_reducible refine (HC2.out _ (HZ.out _ (below_next (below_dr HWR.out) hb5))).mono ?_); rintro e6 w6 ⟨rfl, hb6⟩) | (go_at_call 31; (with_reducible refine (HC3.out _ (HZ.out _ (below_next (below_next (below_dr HWR.out) hb5) hb6))).mono ?_); rintro e10 w10 ⟨rfl, hb10⟩) | (go_at_call 30; refine (HJ.out _ _ (Blk.new _ _ _)).mono ?_; rintro e9 w9 ⟨rfl, hb9⟩; have hAll := below_next (below_next (below_next (below_next (below_dr (Below.refl wr.heap.size wr)) hb5) hb6) hb10) (below_next ((Below.refl w10.heap.size w10).alloc (Nat.le_refl _) _) hb9)) | (go_at_call 26; refine (WriteString_any w4.heap.size w4.heap.size _ S7 _ (IsB.later HI.out hAll) hl7 (Nat.le_trans HB9.out.size hAll.size)).mono ?_; rintro e11 w11 ⟨rfl, h11, b11, k11⟩; have hB11 := HSD.out _ ((below_next HB9.out hAll).trans b11)))
        have HI11 : Hid (Lib.IsBuilderF 57 5 w4.heap.size w4.heap.size (Lib.byteCells (txtL g ((cellsTo g.wide g.high 64).take (j + 1))).data.toList) w11) := by
          have h12 := Or.inr (a := Lib.BuilderAtF 57 5 w4.heap.size w4.heap.size (.pointer none) (Lib.byteCells (txtL g ((cellsTo g.wide g.high 64).take j)).data.toList ++ Lib.strCells S7) w11) h11
          rw [bytes_more, HM2.out] at h12
          exact h12
        have HB11 := Lib.hid ((below_next HB9.out hAll).trans b11)
        have HL11 := Lib.hid ((HLR.out.later hAll).kept k11 hbase)
        clear h11 b11 k11 hB11 hAll hb5 hb6 hb10 hb9
        go_wp2_with fail
        go_roundw
        case rel => exact ⟨j + 1, by omega, by go_num, HI11.out, HL11.out, HB11.out⟩
        case measure => simp [intOf]; omega
      · rw [hf] at HMM z6
        clear hf
        go_wp2_with fail
        have HWS : Hid (∀ e ∈ [(⟨#[102, 105, 120, 101, 100]⟩ : ByteArray), X1, X2, X3], e.size ≤ 20) := by
          show ∀ e ∈ _, _
          intro e he
          simp only [List.mem_cons, List.not_mem_nil, or_false] at he
          rcases he with rfl | rfl | rfl | rfl
          · exact Nat.le_trans z6 (by decide)
          · omega
          · omega
          · omega
        obtain ⟨J, hJ⟩ : ∃ J, jn [(⟨#[102, 105, 120, 101, 100]⟩ : ByteArray), X1, X2, X3] 3 = J := ⟨_, rfl⟩
        have HJ : Hid (∀ (w' : World) (g' : Nat), Blk w' g' #[.string ⟨#[102, 105, 120, 101, 100]⟩, .string X1, .string X2, .string X3] 9 → Calls Tryd.prog 30 #[.slice (some ⟨g', 0, none⟩) 4 4, .string ⟨#[32]⟩] w' fun e w'' => e = .returned (.string J) ∧ Below w'.heap.size w' w'') := fun w' g' hb => by rw [← hJ]; exact Join4 _ g' w' rfl HWS.out hb
        have q1 : J.size ≤ 84 := by rw [← hJ]; exact jn_size HWS.out 3
        obtain ⟨S7, e7⟩ : ∃ S, J ++ (⟨#[10]⟩ : ByteArray) = S := ⟨_, rfl⟩
        have q7 : S7.size ≤ 85 := by rw [← e7, ByteArray.size_append, s10]; omega
        have r7 := str_add e7 (by rw [s10]; omega)
        have HM2 : Hid (txtL g ((cellsTo g.wide g.high 64).take j) ++ S7 = txtL g ((cellsTo g.wide g.high 64).take (j + 1))) := by show _ = _; rw [← HMM.out, ← e7, ← hJ]; rfl
        have hl7 : (Lib.byteCells (txtL g ((cellsTo g.wide g.high 64).take j)).data.toList).length + S7.size ≤ 140737488355328 := by have := HLN.out; omega
        obtain ⟨d0, d1, d2⟩ := HSC.out wr (Below.refl _ _)
        clear HMM z3 z4 z5 z6 e7 q1 q7 hJ HWS
        go_region_held3 (fun w' => w'.cell? ⟨B, 2 + c, none⟩ = some (.float .f32 (g.c c)) ∧ w'.cell? ⟨B, 66 + c, none⟩ = some (.float .f32 (g.g c)) ∧ w'.cell? ⟨B, 130 + c, none⟩ = some (.float .f32 (g.h c))) (first | exact ⟨d0, d1, d2⟩ | exact HSC.out _ (below_next (below_dr (Below.refl wr.heap.size wr)) hb5) | exact HSC.out _ (below_next (below_next (below_dr (Below.refl wr.heap.size wr)) hb5) hb6) | exact HSC.out _ (below_next (below_next (below_next (below_dr (Below.refl wr.heap.size wr)) hb5) hb6) hb10) | exact HSC.out _ hAll | exact ⟨hB11.1, hB11.2.1, hB11.2.2⟩ | go_keep) (first | (go_at_call 31; (with_reducible refine (HC1.out _ (HZ.out _ (below_dr HWR.out))).mono ?_); rintro e5 w5 ⟨rfl, hb5⟩) | (go_at_call 31; (with_reducible refine (HC2.out _ (HZ.out _ (below_next (below_dr HWR.out) hb5))).mono ?_); rintro e6 w6 ⟨rfl, hb6⟩) | (go_at_call 31; (with_reducible refine (HC3.out _ (HZ.out _ (below_next (below_next (below_dr HWR.out) hb5) hb6))).mono ?_); rintro e10 w10 ⟨rfl, hb10⟩) | (go_at_call 30; refine (HJ.out _ _ (Blk.new _ _ _)).mono ?_; rintro e9 w9 ⟨rfl, hb9⟩; have hAll := below_next (below_next (below_next (below_next (below_dr (Below.refl wr.heap.size wr)) hb5) hb6) hb10) (below_next ((Below.refl w10.heap.size w10).alloc (Nat.le_refl _) _) hb9)) | (go_at_call 26; refine (WriteString_any w4.heap.size w4.heap.size _ S7 _ (IsB.later HI.out hAll) hl7 (Nat.le_trans HB9.out.size hAll.size)).mono ?_; rintro e11 w11 ⟨rfl, h11, b11, k11⟩; have hB11 := HSD.out _ ((below_next HB9.out hAll).trans b11)))
        have HI11 : Hid (Lib.IsBuilderF 57 5 w4.heap.size w4.heap.size (Lib.byteCells (txtL g ((cellsTo g.wide g.high 64).take (j + 1))).data.toList) w11) := by
          have h12 := Or.inr (a := Lib.BuilderAtF 57 5 w4.heap.size w4.heap.size (.pointer none) (Lib.byteCells (txtL g ((cellsTo g.wide g.high 64).take j)).data.toList ++ Lib.strCells S7) w11) h11
          rw [bytes_more, HM2.out] at h12
          exact h12
        have HB11 := Lib.hid ((below_next HB9.out hAll).trans b11)
        have HL11 := Lib.hid ((HLR.out.later hAll).kept k11 hbase)
        clear h11 b11 k11 hB11 hAll hb5 hb6 hb10 hb9
        go_wp2_with fail
        go_roundw
        case rel => exact ⟨j + 1, by omega, by go_num, HI11.out, HL11.out, HB11.out⟩
        case measure => simp [intOf]; omega
    · have j1 : ¬ (j : Int) < ((cellsTo g.wide g.high 64).length : Int) := by omega
      obtain rfl : j = (cellsTo g.wide g.high 64).length := by omega
      have HI9 : Hid (Lib.IsBuilderF 57 5 w4.heap.size w4.heap.size (Lib.byteCells (txtG g 64).data.toList) wr) := by
        have h := HI.out
        rw [List.take_length, HEND.out] at h
        exact h
      go_wp2_with (go_at_call 32; refine (Tryd.Builder_String_any_k _ _ _ _ HI9.out HB9.out.size).mono ?_; rintro e w11 ⟨rfl, h1, h2, h3⟩)
      go_ret
      exact ⟨rfl, HWR.out.trans (h2.mono HB4.out.size)⟩
end Go.Proofs.YtekemhibnokhcaaDoor
