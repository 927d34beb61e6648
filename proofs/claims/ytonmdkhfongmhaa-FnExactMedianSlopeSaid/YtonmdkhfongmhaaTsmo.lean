/- Readings that are smoothed: both sides. -/
import Derived.Test.YtonmdkhfongmhaaTsort3
import Derived.Test.YtonmdkhfongmhaaTail
import Derived.Test.YtonmdkhfongmhaaTmark
namespace Go.Proofs.Ytonmdkhfongmhaa
open Go.RowKit

section
variable {P : Program} {ops : Array Oper} {Q : Exit → Act → World → Prop} {rest : List Oper} {a : Act} {w : World} {dst : Option Tmp} {ty T E : TypeId} {X Y : Operand} {pos : String} {after : Array Edge}
theorem wpList_putO {base g i s n cap : Nat} {v : Value} {xs : List Value} (hT : (P.info? T).map (·.size) = some 1) (ho : w.ownsRow base E s (.slice (some ⟨g, 0, none⟩) n cap) n xs) (hlt : i < n * s)
    (hx : a.eval X = .pointer (some ⟨g, i, none⟩)) (hy : a.eval Y = v) (hv : v.oneCell' = true) (hc : v.cells = #[v])
    (h : ∀ w', w'.ownsRow base E s (.slice (some ⟨g, 0, none⟩) n cap) n (xs.set i v) → w.grownBy w' (some g) → wpList P ops Q rest (a.put dst undef) w') : wpList P ops Q (⟨dst, .store T X Y, ty, pos, after, none⟩ :: rest) a w := by
  obtain ⟨h1, ⟨h2, _⟩ | ⟨g', cap', cur, e, hb, hg, hn, hm, hs, hx'⟩⟩ := ho
  · cases h2
  · cases e
    refine wpList_put1 hT hg (by rw [hs]; exact Nat.lt_of_lt_of_le hlt (Nat.mul_le_mul_right s hn)) hx hy hv hc fun w' _ hb' hg' => h w' ?_ hg'
    refine ⟨by simpa using h1, .inr ⟨g, cap, _, rfl, hb, hb', hn, hm, by simpa using hs, ?_⟩⟩
    rw [Array.toList_setIfInBounds, ← hx', List.take_set]
/-- An empty list of its own. -/
theorem wpList_lit0 {base s : Nat} (hbase : base ≤ w.heap.size) (hr : ∀ (ev : Operand → Value) (w : World), (execOp ev ⟨dst, .buildSlice T 0 #[], ty, pos, after, none⟩).run P w = .ok (.value (.slice (some ⟨w.heap.size, 0, none⟩) 0 0)) (w.alloc (.cells #[] E)))
    (h : ∀ v w', w'.ownsRow base E s v 0 [] → Below w.heap.size w w' → wpList P ops Q rest (a.put dst v) w') : wpList P ops Q (⟨dst, .buildSlice T 0 #[], ty, pos, after, none⟩ :: rest) a w :=
  wpList_ran rfl (hr _ _) (h _ _ (World.ownsRow_lit w #[] 0 hbase (by simp [maxLen]) (by simp)) ((Below.refl _ _).alloc (Nat.le_refl _) _))
end
theorem lit0R (dst : Option Tmp) (ty : TypeId) (pos : String) (after : Array Edge) (ev : Operand → Value) (w : World) : (execOp ev ⟨dst, .buildSlice 27 0 #[], ty, pos, after, none⟩).run Try.prog w = .ok (.value (.slice (some ⟨w.heap.size, 0, none⟩) 0 0)) (w.alloc (.cells #[] 81)) := by kernel_rfl

def rds (l : List Rd) : List Value := l.flatMap fun e => [.int .i64 e.t, .int .i16 e.l]
theorem rds_snoc (l : List Rd) (e : Rd) : rds (l ++ [e]) = rds l ++ e.cells := by unfold rds; rw [List.flatMap_append]; rfl
theorem rds_len (l : List Rd) : (rds l).length = l.length * 2 := by
  induction l with
  | nil => rfl
  | cons e r ih => unfold rds at *; rw [List.flatMap_cons, List.length_append, ih, List.length_cons]; simp; omega
theorem rds_one (l : List Rd) : ∀ u ∈ rds l, u.oneCell' = true := by
  intro u hu
  unfold rds at hu
  rw [List.mem_flatMap] at hu
  obtain ⟨e, _, he⟩ := hu
  simp at he
  rcases he with rfl | rfl <;> rfl
theorem rds_at : ∀ (l : List Rd) (j : Nat) (e : Rd), l[j]? = some e → (rds l)[j * 2]? = some (.int .i64 e.t) ∧ (rds l)[j * 2 + 1]? = some (.int .i16 e.l)
  | [], j, e, h => by simp at h
  | x :: r, 0, e, h => by simp at h; subst h; exact ⟨rfl, rfl⟩
  | x :: r, j + 1, e, h => by
    have := rds_at r j e (by simpa using h)
    have e1 : rds (x :: r) = [.int .i64 x.t, .int .i16 x.l] ++ rds r := rfl
    rw [e1, show (j + 1) * 2 = 2 + j * 2 by omega, show 2 + j * 2 + 1 = 2 + (j * 2 + 1) by omega]
    rw [List.getElem?_append_right (by simp), List.getElem?_append_right (by simp)]
    simpa using this
theorem rat_owned {w : World} {base : Nat} {v : Value} {l : List Rd} (h : w.ownsRow base 81 2 v l.length (rds l)) (hr : ∀ e ∈ l, e.Rng) : RAt w v l := by
  have h' := h
  obtain ⟨h1, h2 | ⟨g, cap, cur, rfl, hb, hg, hn, hm, hs, hx⟩⟩ := h
  · obtain ⟨rfl, h0⟩ := h2
    refine ⟨none, 0, by rw [h0], fun j e he => ?_⟩
    have := (List.getElem?_eq_some_iff.1 he).1
    omega
  · refine ⟨_, cap, rfl, fun j e he => ⟨hr e (List.mem_of_getElem? he), g, rfl, fun i u hu => ?_⟩⟩
    have hj : j < l.length := (List.getElem?_eq_some_iff.1 he).1
    obtain ⟨k1, k2⟩ := rds_at l j e he
    match i, hu with
    | 0, hu =>
      cases hu
      rw [World.ownsRow.cellAt h' (j * 2 + 0) (by omega)]
      exact k1
    | 1, hu =>
      cases hu
      rw [World.ownsRow.cellAt h' (j * 2 + 1) (by omega)]
      exact k2
    | i + 2, hu => simp [Rd.cells] at hu
theorem rds_cells {w : World} {g : Nat} : ∀ {l : List Rd} {o : Nat}, (∀ (j : Nat) (e : Rd), l[j]? = some e → w.rangeAt g (o + j * 2) e.cells) → ∀ j u, (rds l)[j]? = some u → w.cell? ⟨g, o + j, none⟩ = some u
  | [], o, _, j, u, hu => by simp [rds] at hu
  | x :: r, o, h, j, u, hu => by
    have e1 : rds (x :: r) = [.int .i64 x.t, .int .i16 x.l] ++ rds r := rfl
    rw [e1] at hu
    have h0 := h 0 x rfl
    match j, hu with
    | 0, hu => exact h0 0 u (by simpa [Rd.cells] using hu)
    | 1, hu => exact h0 1 u (by simpa [Rd.cells] using hu)
    | j + 2, hu =>
      rw [List.getElem?_append_right (by simp)] at hu
      have := rds_cells (l := r) (o := o + 2) (fun j e he => by have := h (j + 1) e (by simpa using he); rw [show o + 2 + j * 2 = o + (j + 1) * 2 by omega]; exact this) j u (by simpa using hu)
      rw [show o + (j + 2) = o + 2 + j by omega]
      exact this
theorem add_cells {w : World} {g : Nat} {xs : List Value} (h : ∀ j u, xs[j]? = some u → w.cell? ⟨g, 0 + j, none⟩ = some u) : ∀ j u, xs[j]? = some u → w.cell? ((⟨g, 0, none⟩ : Addr).add j) = some u := by
  intro j u hu
  have h := h j u hu
  by_cases h0 : j = 0
  · subst h0; simpa [Addr.add] using h
  · simpa [Addr.add, h0] using h

/-- A reading's level set anew. -/
def setLev : List Rd → Nat → Int → List Rd
  | [], _, _ => []
  | e :: r, 0, z => ⟨e.t, z⟩ :: r
  | e :: r, i + 1, z => e :: setLev r i z
theorem setLev_len : ∀ (l : List Rd) (i : Nat) (z : Int), (setLev l i z).length = l.length
  | [], _, _ => rfl
  | _ :: _, 0, _ => rfl
  | e :: r, i + 1, z => by show (setLev r i z).length + 1 = _; rw [setLev_len r i z]; rfl
theorem setLev_rng : ∀ (l : List Rd) (i : Nat) (z : Int), (∀ e ∈ l, e.Rng) → (-32768 ≤ z ∧ z ≤ 32767) → ∀ e ∈ setLev l i z, e.Rng
  | [], _, _, _, _ => fun e he => by cases he
  | x :: r, 0, z, h, hz => fun e he => by
    rcases List.mem_cons.1 he with rfl | he
    · exact ⟨(h x (by simp)).1, hz⟩
    · exact h e (by simp [he])
  | x :: r, i + 1, z, h, hz => fun e he => by
    rcases List.mem_cons.1 he with rfl | he
    · exact h _ (by simp)
    · exact setLev_rng r i z (fun e he => h e (by simp [he])) hz e he
theorem rds_set : ∀ (l : List Rd) (i : Nat) (z : Int), (rds l).set (i * 2 + 1) (.int .i16 z) = rds (setLev l i z)
  | [], _, _ => rfl
  | e :: r, 0, z => rfl
  | e :: r, i + 1, z => by
    have e1 : rds (e :: r) = .int .i64 e.t :: .int .i16 e.l :: rds r := rfl
    have e2 : rds (setLev (e :: r) (i + 1) z) = .int .i64 e.t :: .int .i16 e.l :: rds (setLev r i z) := rfl
    rw [e1, e2, show (i + 1) * 2 + 1 = (i * 2 + 1) + 1 + 1 by omega, List.set_cons_succ, List.set_cons_succ, rds_set r i z]
def levI (l : List Rd) (i : Nat) : Int := (l.getD i ⟨0, 0⟩).l
theorem levI_at {l : List Rd} {j : Nat} {e : Rd} (h : l[j]? = some e) : levI l j = e.l := by unfold levI; simp [List.getD, h]
def smE (l : List Rd) (i : Nat) : Int := med (levI l (i - 1)) (levI l i) (levI l (i + 1))
/-- After so many rounds. -/
def smS (l : List Rd) : Nat → List Rd
  | 0 => l
  | k + 1 => setLev (smS l k) (k + 1) (smE l (k + 1))
theorem smS_len (l : List Rd) : ∀ k, (smS l k).length = l.length
  | 0 => rfl
  | k + 1 => by show (setLev _ _ _).length = _; rw [setLev_len, smS_len l k]
theorem levI_rng {l : List Rd} (h : ∀ e ∈ l, e.Rng) (i : Nat) : -32768 ≤ levI l i ∧ levI l i ≤ 32767 := by
  by_cases hi : i < l.length
  · rw [levI_at (List.getElem?_eq_getElem hi)]
    exact (h _ (List.getElem_mem hi)).2
  · unfold levI
    simp [List.getD, List.getElem?_eq_none (Nat.le_of_not_lt hi)]
theorem med_rng {p q r : Int} (hp : -32768 ≤ p ∧ p ≤ 32767) (hq : -32768 ≤ q ∧ q ≤ 32767) (hr : -32768 ≤ r ∧ r ≤ 32767) : -32768 ≤ med p q r ∧ med p q r ≤ 32767 := by
  unfold med; omega
theorem smS_rng {l : List Rd} (h : ∀ e ∈ l, e.Rng) : ∀ k, ∀ e ∈ smS l k, e.Rng
  | 0 => h
  | k + 1 => setLev_rng _ _ _ (smS_rng h k) (med_rng (levI_rng h _) (levI_rng h _) (levI_rng h _))
/-- What comes back. -/
def smR (l : List Rd) : List Rd := if okR l = true then smS l (l.length - 2) else []
theorem smR_rng {l : List Rd} (h : ∀ e ∈ l, e.Rng) : ∀ e ∈ smR l, e.Rng := by
  unfold smR
  split
  · exact smS_rng h _
  · intro e he; cases he
theorem smR_len (l : List Rd) : (smR l).length ≤ 40 := by
  unfold smR
  split
  · rename_i h
    unfold okR at h
    rw [smS_len]
    simp at h
    exact h.1
  · exact Nat.zero_le _
def codeR (l : List Rd) : Int := if okR l = true then 0 else 1
/-- What is told. -/
def RetSmo (l : List Rd) (w : World) (e : Ending) (w' : World) : Prop :=
  ∃ u, e = .returned (.tuple #[u, .int .i64 (codeR l)]) ∧ w'.ownsRow w.heap.size 81 2 u (smR l).length (rds (smR l)) ∧ Below w.heap.size w w'

set_option maxRecDepth 100000 in
set_option maxHeartbeats 800000 in
theorem l04Median_any (p q r : Int) (w : World) : Calls Try.prog 86 #[.int .i64 p, .int .i64 q, .int .i64 r] w fun e w' => e = .returned (.int .i64 (med p q r)) ∧ w = w' := by
  have HM : ∀ (x y : Int) (w : World), Calls Try.prog 109 #[.int .i64 x, .int .i64 y] w fun e w' => e = .returned (.int .i64 (max x y)) ∧ w = w' := by
    intro x y w
    by_cases h : y < x
    · go_enter Try.func109, Try.ntmps109
      go_wp2_with fail
      go_ret
      exact ⟨ret_int (by omega), rfl⟩
    · go_enter Try.func109, Try.ntmps109
      go_wp2_with fail
      go_ret
      exact ⟨ret_int (by omega), rfl⟩
  have HN : ∀ (x y : Int) (w : World), Calls Try.prog 110 #[.int .i64 x, .int .i64 y] w fun e w' => e = .returned (.int .i64 (min x y)) ∧ w = w' := by
    intro x y w
    by_cases h : x < y
    · go_enter Try.func110, Try.ntmps110
      go_wp2_with fail
      go_ret
      exact ⟨ret_int (by omega), rfl⟩
    · go_enter Try.func110, Try.ntmps110
      go_wp2_with fail
      go_ret
      exact ⟨ret_int (by omega), rfl⟩
  have HM := Lib.hid HM
  have HN := Lib.hid HN
  go_enter Try.func86, Try.ntmps86
  go_wp2_with (first | (go_at_call 109; refine (HM.out _ _ _).mono ?_; rintro e w' ⟨rfl, rfl⟩) | (go_at_call 110; refine (HN.out _ _ _).mono ?_; rintro e w' ⟨rfl, rfl⟩))
  go_ret
  exact ⟨rfl, rfl⟩

/-- The loop's state. -/
def SmRel (l : List Rd) (w : World) (v4 v5 : Value) (wr : World) : Prop :=
  ∃ k : Nat, k ≤ l.length - 2 ∧ v5 = .int .i64 ((k + 1 : Nat) : Int) ∧ wr.ownsRow w.heap.size 81 2 v4 l.length (rds (smS l k)) ∧ Below w.heap.size w wr

set_option maxRecDepth 100000 in
set_option maxHeartbeats 3200000 in
theorem specSmo_any (g0 cap0 : Nat) (l : List Rd) (w : World) (hlen : l.length ≤ 1048576) (hv : RAt w (.slice (some ⟨g0, 0, none⟩) l.length cap0) l) :
    Calls Try.prog 39 #[.slice (some ⟨g0, 0, none⟩) l.length cap0] w (RetSmo l w) := by
  obtain ⟨i0, hi, hz0, hz1, hz2⟩ := info_parts infoRd
  have HV := Lib.hid hv
  clear hv
  cases hok : okR l
  · have HOK := Lib.hid hok
    clear hok
    have HR : Hid (smR l = []) := by show (if _ then _ else _) = _; rw [HOK.out, if_neg (by decide)]
    have HC : Hid (codeR l = 1) := by show (if _ then _ else _) = _; rw [HOK.out, if_neg (by decide)]
    go_enter Try.func39, Try.ntmps39
    go_wp2_with (go_at_call 47; refine (l04Ok_any _ l _ hlen HV.out).mono ?_; rw [HOK.out]; rintro e w1 ⟨rfl, hb⟩; have HB := Lib.hid hb; clear hb)
    go_ret2
    refine ⟨_, by rw [HC.out]; rfl, ?_, HB.out.alloc HB.out.size _⟩
    rw [HR.out]
    exact World.ownsRow_lit w1 #[] 0 HB.out.size (by simp [maxLen]) rfl
  · have HOK := Lib.hid hok
    clear hok
    have HR : Hid (smR l = smS l (l.length - 2)) := by show (if _ then _ else _) = _; rw [HOK.out, if_pos rfl]
    have HC : Hid (codeR l = 0) := by show (if _ then _ else _) = _; rw [HOK.out, if_pos rfl]
    go_enter Try.func39, Try.ntmps39
    go_wp2_with (first | (go_at_call 47; refine (l04Ok_any _ l _ hlen HV.out).mono ?_; rw [HOK.out]; rintro e w1 ⟨rfl, hb⟩; have HB := Lib.hid hb; have HV1 := Lib.hid (HV.out.far hb); clear hb) | ((with_reducible refine wpList_lit0 (base := w.heap.size) (s := 2) (E := 81) ?_ ?_ ?_); exact HB.out.size; exact lit0R _ _ _ _))
    intro vL w2 hvL hb2
    have HO2 := Lib.hid hvL
    have HB2 := Lib.hid hb2
    have hbs := Nat.le_trans HB.out.size hb2.size
    have HB2' := Lib.hid (below_next HB.out hb2)
    have HQ2 : Hid (∀ (j : Nat) (e : Rd), l[j]? = some e → w2.rangeAt g0 (0 + j * 2) e.cells) := by
      obtain ⟨a, cap, e1, hL⟩ := HV1.out
      cases e1
      intro j e he
      obtain ⟨_, g, e2, hq⟩ := hL j e he
      cases e2
      rw [Nat.zero_add]
      exact range_below hq hb2
    clear hvL hb2
    go_wp2_with (at_builtin; refine wpList_append_own _ rfl _ _ 27 rfl w.heap.size 81 i0 (.agg #[.int .i64 0, .int .i16 0]) 2 16 Try.underlying27 hi hz0 hz1 hz2 rfl (by decide) _ _ _ rfl HO2.out ⟨g0, 0, none⟩ l.length cap0 (rds l) rfl (rds_len l) (add_cells (rds_cells HQ2.out)) (rds_one l) (by unfold maxLen; omega) (by omega) hbs ?_)
    intro v' w7 hown7 hgrow _
    have HX7 : Hid (Below w.heap.size w w7) := HB2'.out.grown hgrow hbs (fun q hq => (HO2.out.lt q hq).1)
    have HO7 : Hid (w7.ownsRow w.heap.size 81 2 v' l.length (rds l)) := hown7
    have HQ7 : Hid (∀ wr, Below w.heap.size w wr → ∀ (j : Nat), j < l.length → wr.cell? ⟨g0, j * 2 + 1, none⟩ = some (.int .i16 (levI l j))) := by
      show ∀ _, _
      obtain ⟨a, cap, e1, hL⟩ := HV.out
      cases e1
      intro wr hb j hj
      obtain ⟨_, g, e2, hq⟩ := hL j _ (List.getElem?_eq_getElem hj)
      cases e2
      rw [levI_at (List.getElem?_eq_getElem hj)]
      exact cell_below hb (hq 1 _ rfl)
    have HRNG := Lib.hid (levI_rng HV.out.rng)
    clear hown7 hgrow
    go_wp2_with fail
    go_loopw [5] (fun v5 wr => SmRel l w v' v5 wr) (fun v5 _ => l.length + 1 - (intOf v5).toNat)
    case atStart => exact ⟨0, by omega, rfl, HO7.out, HX7.out⟩
    case round =>
      obtain ⟨k, hk, rfl, hown, hB⟩ := hrel
      have HO := Lib.hid hown
      have HX := Lib.hid hB
      clear hown hB
      by_cases hlt : k + 1 + 1 < l.length
      · have j1 : (k : Int) + 1 + 1 < (l.length : Int) := by omega
        have hbs := HX.out.size
        have e2 : ((k : Int) + 1).toNat = k + 1 := by omega
        have e3 : ((k : Int) + 1 + 1).toNat = k + 1 + 1 := by omega
        have e4 : IntKind.i64.wrap ((k : Int) + 1 + 1) = (k : Int) + 1 + 1 := by rw [IntKind.wrap_i64]; omega
        have e5 : IntKind.i64.wrap (k : Int) = (k : Int) := by rw [IntKind.wrap_i64]; omega
        have p2 : (k : Int) < (l.length : Int) := by omega
        have p3 : (k : Int) + 1 < (l.length : Int) := by omega
        have p4 : (0 : Int) ≤ (k : Int) + 1 := by omega
        have p5 : (0 : Int) ≤ (k : Int) + 1 + 1 := by omega
        obtain ⟨v0, hv0⟩ : ∃ v, levI l k = v := ⟨_, rfl⟩
        obtain ⟨v1, hv1⟩ : ∃ v, levI l (k + 1) = v := ⟨_, rfl⟩
        obtain ⟨v2, hv2⟩ : ∃ v, levI l (k + 1 + 1) = v := ⟨_, rfl⟩
        have c0 := HQ7.out _ HX.out k (by omega)
        have c1 := HQ7.out _ HX.out (k + 1) (by omega)
        have c2 := HQ7.out _ HX.out (k + 1 + 1) (by omega)
        rw [hv0] at c0
        rw [hv1] at c1
        rw [hv2] at c2
        have HM : Hid (med v0 v1 v2 = smE l (k + 1)) := by show _ = _; unfold smE; rw [Nat.add_sub_cancel, hv0, hv1, hv2]
        have hr := med_rng (hv0 ▸ HRNG.out k) (hv1 ▸ HRNG.out (k + 1)) (hv2 ▸ HRNG.out (k + 1 + 1))
        have w0 : IntKind.i64.wrap v0 = v0 := by have := HRNG.out k; rw [hv0] at this; rw [IntKind.wrap_i64]; omega
        have w1 : IntKind.i64.wrap v1 = v1 := by have := HRNG.out (k + 1); rw [hv1] at this; rw [IntKind.wrap_i64]; omega
        have w2' : IntKind.i64.wrap v2 = v2 := by have := HRNG.out (k + 1 + 1); rw [hv2] at this; rw [IntKind.wrap_i64]; omega
        obtain ⟨m, hm⟩ : ∃ m, med v0 v1 v2 = m := ⟨_, rfl⟩
        rw [hm] at HM hr
        have HMM := Lib.hid hm
        have w3 : IntKind.i16.wrap m = m := IntWalk.i16_in _ (by omega)
        have q0 := fun zz => ext_cell wr zz c0
        have q1 := fun zz => ext_cell wr zz c1
        have q2 := fun zz => ext_cell wr zz c2
        clear c0 c1 c2 hv0 hv1 hv2 hm
        obtain ⟨B, capB, rfl⟩ : ∃ B cap, v' = .slice (some ⟨B, 0, none⟩) l.length cap := by
          obtain ⟨_, ⟨_, h0⟩ | ⟨g, cap, cur, e, _⟩⟩ := HO.out
          · omega
          · exact ⟨g, cap, e⟩
        go_wp2_with fail
        refine wp_soft_tail 26 (SV (.int .i64 m)) (by kernel_rfl) (by kernel_rfl) ?_
        simp only [List.take_succ_cons, List.take_zero, List.drop_succ_cons, List.drop_zero]
        repeat (first | (refine soft_step (fun K hK => ?_); go_simp; (try go_bits); refine hK _ ?_; clear hK K) | (refine soft_step (fun K hK => ?_); go_simp; refine ⟨_, _, ⟨rfl, rfl⟩, fun zz => (l04Median_any v0 v1 v2 _).mono ?_, ?_⟩; (rintro e1 w1 ⟨he, rfl⟩; rw [HMM.out] at he; exact ⟨_, he, rfl, Below.refl _ _⟩); rintro v rfl; refine hK _ ?_; clear hK K))
        refine soft_nil ?_
        rintro w5 hw5
        have HO5 := Lib.hid (owns_belowN HO.out hw5.below)
        have HX5 := Lib.hid (below_next HX.out hw5.below)
        clear hw5 q0 q1 q2
        go_wp2_with ((with_reducible refine wpList_gateS ?_); refine wpList_putO size16 HO5.out (i := (k + 1) * 2 + 1) (v := .int .i16 m) (by omega) ?_ ?_ rfl rfl ?_; rfl; rfl)
        intro w6 hO6 hg6
        have HO6 : Hid (w6.ownsRow w.heap.size 81 2 (.slice (some ⟨B, 0, none⟩) l.length capB) l.length (rds (smS l (k + 1)))) := by
          show World.ownsRow _ _ _ _ _ _ _
          rw [rds_set, HM.out] at hO6
          exact hO6
        have HX6 := Lib.hid (below_grown HX5.out hg6 HX5.out.size (HO.out.lt B rfl).1)
        clear hO6 hg6
        go_wp2_with fail
        go_roundw
        case rel => exact ⟨k + 1, by omega, by go_num, HO6.out, HX6.out⟩
        case measure => simp [intOf]; omega
      · have j1 : ¬ (k : Int) + 1 + 1 < (l.length : Int) := by omega
        have HJ : Hid (smS l k = smR l) := by show _ = _; rw [HR.out, show k = l.length - 2 by omega]
        have HL := Lib.hid (smS_len l k)
        rw [HJ.out] at HO HL
        go_wp2_with fail
        go_ret2
        exact ⟨_, by rw [HC.out]; rfl, by rw [HL.out]; exact HO.out, HX.out⟩

set_option maxRecDepth 100000 in
set_option maxHeartbeats 1600000 in
theorem CloneR_any (g0 cap0 : Nat) (l : List Rd) (w : World) (hlen : l.length ≤ 1048576) (hv : RAt w (.slice (some ⟨g0, 0, none⟩) l.length cap0) l) :
    Calls Try.prog 87 #[.slice (some ⟨g0, 0, none⟩) l.length cap0] w fun e w' => ∃ u, e = .returned u ∧ w'.ownsRow w.heap.size 81 2 u l.length (rds l) ∧ Below w.heap.size w w' := by
  obtain ⟨i0, hi, hz0, hz1, hz2⟩ := info_parts infoRd
  have HQ2 : Hid (∀ w2, Below w.heap.size w w2 → ∀ (j : Nat) (e : Rd), l[j]? = some e → w2.rangeAt g0 (0 + j * 2) e.cells) := by
    show ∀ _, _
    obtain ⟨a, cap, e1, hL⟩ := hv
    cases e1
    intro w2 hb2 j e he
    obtain ⟨_, g, e2, hq⟩ := hL j e he
    cases e2
    rw [Nat.zero_add]
    exact range_below hq hb2
  clear hv
  have hnil : ∀ w : World, (binOp .eql 27 (.slice (some ⟨g0, 0, none⟩) l.length cap0) (.slice none 0 0)).run Try.prog w = .ok (.bool false) w := fun w => Lib.run_eql_slice_nil w _ _ _ _ _ _ _ Try.underlying27
  go_enter Try.func87, Try.ntmps87
  go_wp2_with ((with_reducible refine wpList_lit0 (base := w.heap.size) (s := 2) (E := 81) ?_ ?_ ?_); exact Nat.le_refl _; exact lit0R _ _ _ _)
  intro vL w2 hvL hb2
  have HO2 := Lib.hid hvL
  have HB2 := Lib.hid hb2
  have hbs := hb2.size
  clear hvL hb2
  go_wp2_with (at_builtin; refine wpList_append_own _ rfl _ _ 27 rfl w.heap.size 81 i0 (.agg #[.int .i64 0, .int .i16 0]) 2 16 Try.underlying27 hi hz0 hz1 hz2 rfl (by decide) _ _ _ rfl HO2.out ⟨g0, 0, none⟩ l.length cap0 (rds l) rfl (rds_len l) (add_cells (rds_cells (HQ2.out _ HB2.out))) (rds_one l) (by unfold maxLen; omega) (by omega) hbs ?_)
  intro v' w7 hown7 hgrow _
  have HX7 : Hid (Below w.heap.size w w7) := HB2.out.grown hgrow hbs (fun q hq => (HO2.out.lt q hq).1)
  have HO7 : Hid (w7.ownsRow w.heap.size 81 2 v' l.length (rds l)) := hown7
  clear hown7 hgrow
  go_wp2_with fail
  go_ret
  exact ⟨_, rfl, HO7.out, HX7.out⟩

set_option maxRecDepth 100000 in
set_option maxHeartbeats 3200000 in
theorem Smo_any (g0 cap0 : Nat) (l : List Rd) (w : World) (hlen : l.length ≤ 1048576) (hv : RAt w (.slice (some ⟨g0, 0, none⟩) l.length cap0) l) :
    Calls Try.prog 40 #[.slice (some ⟨g0, 0, none⟩) l.length cap0] w (RetSmo l w) := by
  have HV := Lib.hid hv
  clear hv
  cases hok : okR l
  · have HOK := Lib.hid hok
    clear hok
    have HR : Hid (smR l = []) := by show (if _ then _ else _) = _; rw [HOK.out, if_neg (by decide)]
    have HC : Hid (codeR l = 1) := by show (if _ then _ else _) = _; rw [HOK.out, if_neg (by decide)]
    go_enter Try.func40, Try.ntmps40
    go_wp2_with (go_at_call 52; refine (ValidReadings_any _ l _ hlen HV.out).mono ?_; rw [HOK.out]; rintro e w1 ⟨rfl, hb⟩; have HB := Lib.hid hb; clear hb)
    go_ret2
    refine ⟨_, by rw [HC.out]; rfl, ?_, HB.out⟩
    rw [HR.out]
    exact World.ownsRow_nil _ _ _ _
  · have HOK := Lib.hid hok
    clear hok
    have HR : Hid (smR l = smS l (l.length - 2)) := by show (if _ then _ else _) = _; rw [HOK.out, if_pos rfl]
    have HC : Hid (codeR l = 0) := by show (if _ then _ else _) = _; rw [HOK.out, if_pos rfl]
    go_enter Try.func40, Try.ntmps40
    go_wp2_with (first | (go_at_call 52; refine (ValidReadings_any _ l _ hlen HV.out).mono ?_; rw [HOK.out]; rintro e w1 ⟨rfl, hb⟩; have HB := Lib.hid hb; have HV1 := Lib.hid (HV.out.far hb); clear hb) | (go_at_call 87; refine (CloneR_any g0 cap0 l _ hlen HV1.out).mono ?_; rintro e w7 ⟨v', rfl, ho, hb⟩; have HO7 := Lib.hid (owns_monoN ho HB.out.size); have HX7 := Lib.hid (below_next HB.out hb); clear ho hb))
    have HQ7 : Hid (∀ wr, Below w.heap.size w wr → ∀ (j : Nat), j < l.length → wr.cell? ⟨g0, j * 2 + 1, none⟩ = some (.int .i16 (levI l j))) := by
      show ∀ _, _
      obtain ⟨a, cap, e1, hL⟩ := HV.out
      cases e1
      intro wr hb j hj
      obtain ⟨_, g, e2, hq⟩ := hL j _ (List.getElem?_eq_getElem hj)
      cases e2
      rw [levI_at (List.getElem?_eq_getElem hj)]
      exact cell_below hb (hq 1 _ rfl)
    have HRNG := Lib.hid (levI_rng HV.out.rng)
    go_loopw [5] (fun v5 wr => SmRel l w v' v5 wr) (fun v5 _ => l.length + 1 - (intOf v5).toNat)
    case atStart => exact ⟨0, by omega, rfl, HO7.out, HX7.out⟩
    case round =>
      obtain ⟨k, hk, rfl, hown, hB⟩ := hrel
      have HO := Lib.hid hown
      have HX := Lib.hid hB
      clear hown hB
      by_cases hlt : k + 1 + 1 < l.length
      · have j1 : (k : Int) + 1 + 1 < (l.length : Int) := by omega
        have hbs := HX.out.size
        have e2 : ((k : Int) + 1).toNat = k + 1 := by omega
        have e3 : ((k : Int) + 1 + 1).toNat = k + 1 + 1 := by omega
        have e4 : IntKind.i64.wrap ((k : Int) + 1 + 1) = (k : Int) + 1 + 1 := by rw [IntKind.wrap_i64]; omega
        have e5 : IntKind.i64.wrap (k : Int) = (k : Int) := by rw [IntKind.wrap_i64]; omega
        have p2 : (k : Int) < (l.length : Int) := by omega
        have p3 : (k : Int) + 1 < (l.length : Int) := by omega
        have p4 : (0 : Int) ≤ (k : Int) + 1 := by omega
        have p5 : (0 : Int) ≤ (k : Int) + 1 + 1 := by omega
        obtain ⟨v0, hv0⟩ : ∃ v, levI l k = v := ⟨_, rfl⟩
        obtain ⟨v1, hv1⟩ : ∃ v, levI l (k + 1) = v := ⟨_, rfl⟩
        obtain ⟨v2, hv2⟩ : ∃ v, levI l (k + 1 + 1) = v := ⟨_, rfl⟩
        have c0 := HQ7.out _ HX.out k (by omega)
        have c1 := HQ7.out _ HX.out (k + 1) (by omega)
        have c2 := HQ7.out _ HX.out (k + 1 + 1) (by omega)
        rw [hv0] at c0
        rw [hv1] at c1
        rw [hv2] at c2
        have HM : Hid (med v0 v1 v2 = smE l (k + 1)) := by show _ = _; unfold smE; rw [Nat.add_sub_cancel, hv0, hv1, hv2]
        obtain ⟨m, hm⟩ : ∃ m, med v0 v1 v2 = m := ⟨_, rfl⟩
        rw [hm] at HM
        have HMM := Lib.hid hm
        have q0 := fun zz => ext_cell wr zz c0
        have q1 := fun zz => ext_cell wr zz c1
        have q2 := fun zz => ext_cell wr zz c2
        clear c0 c1 c2 hv0 hv1 hv2 hm
        obtain ⟨B, capB, rfl⟩ : ∃ B cap, v' = .slice (some ⟨B, 0, none⟩) l.length cap := by
          obtain ⟨_, ⟨_, h0⟩ | ⟨g, cap, cur, e, _⟩⟩ := HO.out
          · omega
          · exact ⟨g, cap, e⟩
        go_wp2_with fail
        refine wp_soft_tail 17 (SV (.int .i64 m)) (by kernel_rfl) (by kernel_rfl) ?_
        simp only [List.take_succ_cons, List.take_zero, List.drop_succ_cons, List.drop_zero]
        repeat (first | (refine soft_step (fun K hK => ?_); go_simp; (try go_bits); refine hK _ ?_; clear hK K))
        refine soft_nil ?_
        rintro w5 hw5
        have HO5 := Lib.hid (owns_belowN HO.out hw5.below)
        have HX5 := Lib.hid (below_next HX.out hw5.below)
        clear hw5 q0 q1 q2
        obtain ⟨w6, hw6⟩ : ∃ w6, w5.alloc (.cells #[.int .i16 v0, .int .i16 v1, .int .i16 v2] 79) = w6 := ⟨_, rfl⟩
        obtain ⟨B3, hB3⟩ : ∃ b, w5.heap.size = b := ⟨_, rfl⟩
        have hb3 : Blk w6 B3 #[.int .i16 v0, .int .i16 v1, .int .i16 v2] 79 := by rw [← hw6, ← hB3]; exact Blk.new' _ _ _ rfl
        have HB3 := Lib.hid hb3
        have HX6 : Hid (Below w.heap.size w w6) := by show Below _ _ _; rw [← hw6]; exact HX5.out.alloc HX5.out.size _
        have HO6 : Hid (w6.ownsRow w.heap.size 81 2 (.slice (some ⟨B, 0, none⟩) l.length capB) l.length (rds (smS l k))) := by show World.ownsRow _ _ _ _ _ _ _; rw [← hw6]; exact HO5.out.alloc _
        have hlB : B < B3 := by rw [← hB3]; exact (HO5.out.lt B rfl).2
        have hlB3 : w.heap.size ≤ B3 := by rw [← hB3]; exact HX5.out.size
        go_wp2_with fail
        clear hw6 hb3 hB3
        refine (sort3_any B3 v0 v1 v2 w6 HB3.out).mono ?_
        rw [HMM.out]
        rintro e w8 ⟨rfl, hc8, hg8⟩
        have HO8 := Lib.hid (owns_farN HO6.out hg8 (fun q hq => by have hq2 : B = q := Option.some.inj hq; omega))
        have HX8 := Lib.hid (below_grown HX6.out hg8 HX6.out.size hlB3)
        clear hg8
        go_wp2_with ((with_reducible refine wpList_gateS ?_); refine wpList_putO size16 HO8.out (i := (k + 1) * 2 + 1) (v := .int .i16 m) (by omega) ?_ ?_ rfl rfl ?_; rfl; rfl)
        intro w9 hO9 hg9
        have HO9 : Hid (w9.ownsRow w.heap.size 81 2 (.slice (some ⟨B, 0, none⟩) l.length capB) l.length (rds (smS l (k + 1)))) := by
          show World.ownsRow _ _ _ _ _ _ _
          rw [rds_set, HM.out] at hO9
          exact hO9
        have HX9 := Lib.hid (below_grown HX8.out hg9 HX8.out.size (HO.out.lt B rfl).1)
        clear hO9 hg9 hc8
        go_wp2_with fail
        go_roundw
        case rel => exact ⟨k + 1, by omega, by go_num, HO9.out, HX9.out⟩
        case measure => simp [intOf]; omega
      · have j1 : ¬ (k : Int) + 1 + 1 < (l.length : Int) := by omega
        have HJ : Hid (smS l k = smR l) := by show _ = _; rw [HR.out, show k = l.length - 2 by omega]
        have HL := Lib.hid (smS_len l k)
        rw [HJ.out] at HO HL
        go_wp2_with fail
        go_ret2
        exact ⟨_, by rw [HC.out]; rfl, by rw [HL.out]; exact HO.out, HX.out⟩
end Go.Proofs.Ytonmdkhfongmhaa
