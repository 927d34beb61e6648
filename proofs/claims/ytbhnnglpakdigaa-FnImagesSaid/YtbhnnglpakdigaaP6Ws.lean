/- Wells drawn out of bytes. -/
import Derived.Test.YtbhnnglpakdigaaDrawW
import Derived.Test.YtbhnnglpakdigaaWlist
namespace Go.Proofs.Ytbhnnglpakdigaa
open Go.RowKit

/-! Lists of wells in memory of their own. -/
def flatW (l : List We) : List Value := l.flatMap We.cells
theorem flatW_snoc (l : List We) (e : We) : flatW (l ++ [e]) = flatW l ++ e.cells := by simp [flatW]
theorem flatW_at : ∀ (l : List We) (j : Nat) (e : We), l[j]? = some e → ∀ (i : Nat) (u : Value), e.cells[i]? = some u → (flatW l)[j * 3 + i]? = some u
  | [], j, e, h, i, u, hu => by simp at h
  | x :: r, 0, e, h, i, u, hu => by
    simp only [List.getElem?_cons_zero, Option.some.injEq] at h
    subst h
    have hi : i < x.cells.length := (List.getElem?_eq_some_iff.1 hu).1
    show (x.cells ++ flatW r)[0 * 3 + i]? = _
    rw [show 0 * 3 + i = i by omega, List.getElem?_append_left hi]; exact hu
  | x :: r, j + 1, e, h, i, u, hu => by
    have := flatW_at r j e (by simpa using h) i u hu
    show (x.cells ++ flatW r)[(j + 1) * 3 + i]? = _
    have h3 : x.cells.length = 3 := rfl
    rw [List.getElem?_append_right (by omega), h3, show (j + 1) * 3 + i - 3 = j * 3 + i by omega]; exact this
theorem wat_owned {w : World} {base : Nat} {v : Value} {l : List We} (h : w.ownsRow base 32 3 v l.length (flatW l)) (hr : ∀ e ∈ l, e.Rng) : WAt w v l := by
  have h' := h
  obtain ⟨h1, h2 | ⟨g, cap, cur, rfl, hb, hg, hn, _⟩⟩ := h
  · obtain ⟨rfl, h0⟩ := h2
    refine ⟨none, 0, by rw [h0], fun j e he => ?_⟩
    have : l = [] := List.eq_nil_of_length_eq_zero h0
    subst this; simp at he
  · refine ⟨_, cap, rfl, fun j e he => ⟨hr e (List.mem_of_getElem? he), g, rfl, fun i u hu => ?_⟩⟩
    have hj : j < l.length := (List.getElem?_eq_some_iff.1 he).1
    have hi : i < 3 := (List.getElem?_eq_some_iff.1 hu).1
    have := World.ownsRow.cellAt (w := w) (base := base) (e := 32) (size := 3) (g := g) (n := l.length) (cap := cap) (xs := flatW l) h' (j * 3 + i) (by omega)
    rw [this]
    exact flatW_at l j e he i u hu
theorem owns_belowN {w w' : World} {base s : Nat} {T : TypeId} {v : Value} {n : Nat} {xs : List Value} (h : w.ownsRow base T s v n xs) (hB : Below w.heap.size w w') : w'.ownsRow base T s v n xs := by
  obtain ⟨h1, h2⟩ := h
  refine ⟨h1, h2.imp id fun ⟨g, cap, cur, e, hb, hg, rest⟩ => ⟨g, cap, cur, e, hb, ?_, rest⟩⟩
  exact (hB.block g (Array.getElem?_eq_some_iff.1 hg).1).trans hg
theorem owns_farN {w w' : World} {base r s : Nat} {T : TypeId} {v : Value} {n : Nat} {xs : List Value} (h : w.ownsRow base T s v n xs) (hg : w.grownBy w' (some r)) (hne : ∀ q, v.ownBlock = some q → q ≠ r) : w'.ownsRow base T s v n xs := by
  obtain ⟨h1, h2⟩ := h
  refine ⟨h1, h2.imp id fun ⟨g, cap, cur, e, hb, hc, rest⟩ => ⟨g, cap, cur, e, hb, ?_, rest⟩⟩
  subst e
  have := hne g rfl
  exact (hg.block g (Array.getElem?_eq_some_iff.1 hc).1 (by simpa using this)).trans hc
theorem owns_monoN {w : World} {base base' s : Nat} {T : TypeId} {v : Value} {n : Nat} {xs : List Value} (h : w.ownsRow base' T s v n xs) (hb : base ≤ base') : w.ownsRow base T s v n xs := by
  obtain ⟨h1, h2⟩ := h
  exact ⟨h1, h2.imp id fun ⟨g, cap, cur, e, hg, rest⟩ => ⟨g, cap, cur, e, Nat.le_trans hb hg, rest⟩⟩
theorem cells_new (w : World) (cs : Array Value) (t : TypeId) : ∀ j u, cs.toList[j]? = some u → (w.alloc (.cells cs t)).cell? ((⟨w.heap.size, 0, none⟩ : Addr).add j) = some u := by
  intro j u hj
  have := (Blk.new' w cs t rfl).at (i := j) (v := u) (by simpa using hj)
  by_cases h0 : j = 0
  · subst h0; simpa [Addr.add] using this
  · simpa [Addr.add, h0] using this
theorem size4 : (Try.prog.info? 22).map (·.size) = some 1 := by kernel_rfl

/-- A number out of a source that is newer than a world. -/
theorem l03Number_on (b n k : Nat) (v : Value) (w0 w : World) (hn : n ≤ 4096) (hk : k ≤ 90000) (hv : BytesAt w0 v n) (hB : Below w0.heap.size w0 w) (hb : w0.heap.size ≤ b) (hs : SrcAt w b v k) :
    Calls Try.prog 58 #[.pointer (some ⟨b, 0, none⟩)] w fun e w' => ∃ r z : Nat, e = .returned (.float .f32 r) ∧ z < 6401 ∧ Is r (numF z) ∧ SrcAt w' b v (k + 2) ∧ Below w0.heap.size w0 w' ∧ w.grownBy w' (some b) := by
  have HV := Lib.hid hv
  have HS := Lib.hid hs
  have HB1 := Lib.hid hB
  clear hv hs hB
  go_enter Try.func58, Try.ntmps58
  go_wp2_with fail
  refine (pick_on b n k 6401 v w0 w hn (by omega) (by omega) (by omega) HV.out HB1.out hb HS.out).mono ?_
  rintro e w2 ⟨z, rfl, hz, hs2, hB2, hg2⟩
  have HB2 := Lib.hid hB2
  have HS2 := Lib.hid hs2
  have HG2 := Lib.hid hg2
  have hz1 : (z : Int) < 6401 := by omega
  clear hB2 hs2 hg2
  go_wp2_with (first | ((with_reducible refine wpList_gate ?_); refine wpList_arith _ _ rfl rfl rfl ?_; intro r n hr))
  go_ret
  exact ⟨_, z, rfl, hz, hr.op (Is.ofI _) rfl, HS2.out.drewN _, below_drawn HB2.out _, grown_trans HG2.out (grown_drewN _ _ _)⟩

/-- A drawn well. -/
def GoodW (e : We) : Prop := (-4 ≤ e.x ∧ e.x ≤ 11) ∧ (-4 ≤ e.y ∧ e.y ≤ 11) ∧ ∃ z : Nat, z < 6401 ∧ fb e.r = numF z
theorem GoodW.rng {e : We} (h : GoodW e) : e.Rng := by obtain ⟨h1, h2, _⟩ := h; exact ⟨by omega, by omega⟩

def PwRel (b : Nat) (v : Value) (W2 w : World) (v4 v5 : Value) (wr : World) : Prop :=
  ∃ (j : Nat) (l : List We), v5 = .int .i64 j ∧ l.length + j ≤ 4 ∧ wr.ownsRow W2.heap.size 32 3 v4 l.length (flatW l) ∧ (∀ e ∈ l, GoodW e) ∧ SrcAt wr b v (2 + 6 * l.length) ∧ Below w.heap.size w wr ∧ W2.heap.size ≤ wr.heap.size

set_option maxRecDepth 100000 in
set_option maxHeartbeats 3200000 in
theorem P6Wells_any (v : Value) (len : Nat) (w : World) (hn : len ≤ 4096) (hv : BytesAt w v len) :
    Calls Try.prog 23 #[v] w fun e w' => ∃ (u : Value) (l : List We), e = .returned u ∧ l.length ≤ 4 ∧ (∀ e ∈ l, GoodW e) ∧ w'.ownsRow w.heap.size 32 3 u l.length (flatW l) ∧ Below w.heap.size w w' := by
  obtain ⟨i0, hi, hz0, hz1, hz2⟩ := info_parts infoWell
  have h1 := hv.slice
  have HV := Lib.hid hv
  clear hv
  go_enter Try.func23, Try.ntmps23
  go_wp2_with fail
  refine (l00From_any v w h1).mono ?_
  rintro e w1 ⟨b, rfl, hb, hs, hb1⟩
  have HB1 := Lib.hid hb1
  have HS1 := Lib.hid hs
  clear hs hb1
  have hb1' : b < w1.heap.size := HS1.out.lt
  go_wp2_with fail
  obtain ⟨wo, hwo⟩ : ∃ wo, w1.alloc (.cells #[] 32) = wo := ⟨_, rfl⟩
  have HO : Hid (wo.ownsRow w1.heap.size 32 3 (.slice (some ⟨w1.heap.size, 0, none⟩) 0 0) 0 []) := by rw [← hwo]; exact World.ownsRow_lit w1 #[] 0 (Nat.le_refl _) (by simp [maxLen]) rfl
  have HBo : Hid (Below w.heap.size w wo) := by rw [← hwo]; exact HB1.out.alloc HB1.out.size _
  have HSo : Hid (SrcAt wo b v 0) := by rw [← hwo]; exact HS1.out.later ((Below.refl _ _).alloc (Nat.le_refl _) _)
  have hso : w1.heap.size ≤ wo.heap.size := by rw [← hwo]; simp
  try rw [hwo]
  have HWO := Lib.hid hwo
  clear hwo
  refine (pick_on b len 0 5 v w _ hn (by omega) (by omega) (by omega) HV.out HBo.out hb HSo.out).mono ?_
  rintro e w2 ⟨n, rfl, hn5, hs2, hB2, hg2⟩
  have HB2 := Lib.hid hB2
  have HS2 := Lib.hid hs2
  have HO2 : Hid (w2.ownsRow w1.heap.size 32 3 (.slice (some ⟨w1.heap.size, 0, none⟩) 0 0) 0 []) := owns_farN HO.out hg2 (fun q hq => by cases hq; show w1.heap.size ≠ b; omega)
  have hsz2 := hg2.size
  clear hB2 hs2 hg2
  go_wp2_with fail
  go_loopw [4, 5] (fun v4 v5 wr => PwRel b v w1 w v4 v5 wr) (fun _ v5 _ => (intOf v5).toNat)
  case atStart => exact ⟨n, [], rfl, by simp; omega, HO2.out, by simp, HS2.out, HB2.out, by omega⟩
  case round =>
    obtain ⟨j, l, rfl, hlen, hown, hall, hsr, hbr, hszr⟩ := hrel
    have HO := Lib.hid hown
    have HALL := Lib.hid hall
    have HSR := Lib.hid hsr
    have HBR := Lib.hid hbr
    clear hown hall hsr hbr
    by_cases hj : 0 < j
    · have j1 : (0 : Int) < (j : Int) := by omega
      go_wp2_with fail
      refine (pick_on b len _ 16 v w wr hn (by omega) (by omega) (by omega) HV.out HBR.out hb HSR.out).mono ?_
      rintro e w3 ⟨x, rfl, hx, hs3, hB3, hg3⟩
      have HB3 := Lib.hid hB3
      have HS3 := Lib.hid hs3
      have HO3 := Lib.hid (owns_farN HO.out hg3 (fun q hq => by have := (HO.out.lt q hq).1; omega))
      have hx1 : (x : Int) < 16 := by omega
      have hsz3 := hg3.size
      clear hB3 hs3 hg3
      go_wp2_with fail
      refine (pick_on b len _ 16 v w w3 hn (by omega) (by omega) (by omega) HV.out HB3.out hb HS3.out).mono ?_
      rintro e w4 ⟨y, rfl, hy, hs4, hB4, hg4⟩
      have HB4 := Lib.hid hB4
      have HS4 := Lib.hid hs4
      have HO4 := Lib.hid (owns_farN HO3.out hg4 (fun q hq => by have := (HO3.out.lt q hq).1; omega))
      have hy1 : (y : Int) < 16 := by omega
      have hsz4 := hg4.size
      have hbw4 := HB4.out.size
      have hb4 : b < w4.heap.size := HS4.out.lt
      clear hB4 hs4 hg4
      go_wp2_with (with_reducible refine wpList_new newWell ?_)
      intro A w5 hA1 hA2 hA3 hA4
      have HB5 := Lib.hid (below_next HB4.out hA4)
      have HS5 := Lib.hid (HS4.out.later hA4)
      have HO5 := Lib.hid (owns_belowN HO4.out hA4)
      have hOl : ∀ q, Value.ownBlock _ = some q → q < w4.heap.size := fun q hq => (HO4.out.lt q hq).2
      have hsz5 := hA4.size
      clear hA4
      go_wp2_with ((with_reducible refine wpList_gateS ?_); refine wpList_put (cells := #[.int .i8 ((x : Int) - 4), .int .i8 ((y : Int) - 4), .float .f32 0]) hA3 sizeWell rfl (by simp [Value.oneCell']) rfl rfl ?_)
      intro w6 s6 b6 k6
      have HB6 := Lib.hid (below_grown HB5.out k6 HB5.out.size (by omega))
      have HS6 := Lib.hid (HS5.out.grown k6 (by omega))
      have HO6 := Lib.hid (owns_farN HO5.out k6 (fun q hq => by have := hOl q hq; omega))
      have HA6 := Lib.hid b6
      clear hA3 k6 b6
      go_wp2_with fail
      refine (l03Number_on b len _ v w w6 hn (by omega) HV.out HB6.out hb HS6.out).mono ?_
      rintro e w7 ⟨r, z, rfl, hz, hr, hs7, hB7, hg7⟩
      have HB7 := Lib.hid hB7
      have HS7 := Lib.hid hs7
      have HO7 := Lib.hid (owns_farN HO6.out hg7 (fun q hq => by have := (HO6.out.lt q hq).1; omega))
      have HA7 := Lib.hid (HA6.out.grown hg7 (by omega))
      have HR := Lib.hid hr
      have hsz7 := hg7.size
      clear hB7 hs7 hg7 hr
      go_wp2_with ((with_reducible refine wpList_gateS ?_); refine wpList_put1 (i := 2) (v := .float .f32 r) size4 HA7.out (by simp) rfl rfl rfl rfl ?_)
      intro w8 s8 b8 k8
      have HB8 := Lib.hid (below_grown HB7.out k8 HB7.out.size (by omega))
      have HS8 := Lib.hid (HS7.out.grown k8 (by omega))
      have HO8 := Lib.hid (owns_farN HO7.out k8 (fun q hq => by have := hOl q hq; omega))
      have HA8 : Blk w8 A #[.int .i8 ((x : Int) - 4), .int .i8 ((y : Int) - 4), .float .f32 r] 32 := b8
      have hbs8 := HB8.out.size
      have hq8 : w1.heap.size ≤ w8.heap.size := by omega
      clear k8 b8 s8 s6
      go_wp2_with (first | ((with_reducible refine wpList_get HA8 Try.underlying32 rfl (by kernel_rfl) ?_ ?_); rfl) | (at_builtin; refine wpList_append_own _ rfl _ _ 45 rfl w1.heap.size 32 i0 (.agg #[.int .i8 0, .int .i8 0, .float .f32 0]) 3 8 Try.underlying45 hi hz0 hz1 hz2 rfl (by decide) _ _ _ rfl (HO8.out.alloc _) ⟨w8.heap.size, 0, none⟩ 1 1 (We.cells ⟨(x : Int) - 4, (y : Int) - 4, r⟩) rfl rfl (cells_new w8 #[.int .i8 ((x : Int) - 4), .int .i8 ((y : Int) - 4), .float .f32 r] 32) (by simp [We.cells, Value.oneCell']) (by unfold maxLen; omega) (by omega) (by simp; omega) ?_))
      intro v' w9 hown9 hgrow _
      have HO9 := Lib.hid hown9
      have HB9 : Hid (Below w.heap.size w w9) := (HB8.out.alloc (by omega) _).grown hgrow (by simp; omega) (fun q hq => by have := (HO8.out.lt q hq).1; omega)
      have HS9 : Hid (SrcAt w9 b v (2 + 6 * (l.length + 1))) := by
        have h1 : SrcAt (w8.alloc (.cells #[.int .i8 ((x : Int) - 4), .int .i8 ((y : Int) - 4), .float .f32 r] 32)) b v (2 + 6 * l.length + 2 + 2 + 2) := HS8.out.later ((Below.refl _ _).alloc (Nat.le_refl _) _)
        obtain ⟨p, sd, h3, h4⟩ := h1
        refine ⟨p, sd, by omega, ?_⟩
        exact (hgrow.block b h4.lt (fun hq => by have := (HO8.out.lt b hq.symm).1; omega)).trans h4
      have hsz9 := hgrow.size
      simp at hsz9
      clear hown9 hgrow
      go_wp2_with fail
      go_roundw
      case rel =>
        refine ⟨j - 1, l ++ [⟨(x : Int) - 4, (y : Int) - 4, r⟩], by go_num, by simp; omega, ?_, ?_, by simpa using HS9.out, HB9.out, by omega⟩
        · rw [flatW_snoc, List.length_append]; exact HO9.out
        · intro e he
          rcases List.mem_append.1 he with he | he
          · exact HALL.out e he
          · simp at he; subst he
            exact ⟨by show -4 ≤ (x : Int) - 4 ∧ (x : Int) - 4 ≤ 11; omega, by show -4 ≤ (y : Int) - 4 ∧ (y : Int) - 4 ≤ 11; omega, z, hz, HR.out⟩
      case measure => simp [intOf]; omega
    · have j1 : ¬ (0 : Int) < (j : Int) := by omega
      go_wp2_with fail
      go_ret
      exact ⟨_, rfl, l, by omega, HALL.out, owns_monoN HO.out HB1.out.size, HBR.out⟩
end Go.Proofs.Ytbhnnglpakdigaa
