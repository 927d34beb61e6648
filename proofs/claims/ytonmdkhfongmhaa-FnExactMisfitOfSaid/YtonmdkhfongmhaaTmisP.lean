/- The misfit, told with a code: both sides. -/
import Derived.Test.YtonmdkhfongmhaaTmisO
namespace Go.Proofs.Ytonmdkhfongmhaa
open Go.RowKit

def misR (a : Aq) (s : Si) (l : List Rd) : F × Int := if askF a.ok s l = 0 then (misF a s l, 0) else (some 0, askF a.ok s l)
/-- A float and a code are handed back. -/
def RetFI (x : F × Int) (w : World) (e : Ending) (w' : World) : Prop := ∃ q, e = .returned (.tuple #[.float .f32 q, .int .i64 x.2]) ∧ Is q x.1 ∧ Below w.heap.size w w'
theorem place_le {n : Int} (h : placeB n = true) : -100 ≤ n ∧ n ≤ 100 := by
  unfold placeB at h
  rw [Bool.and_eq_true] at h
  exact ⟨of_decide_eq_true h.1, of_decide_eq_true h.2⟩
theorem ask_parts {A : Bool} {s : Si} {l : List Rd} (h : askF A s l = 0) : A = true ∧ s.ok = true ∧ okR l = true := by
  unfold askF at h
  split at h
  · rename_i h1
    simp only [Bool.and_eq_true] at h1
    exact ⟨h1.1.1, h1.1.2, h1.2⟩
  · exact absurd h (by decide)
theorem mis_ok {a : Aq} {s : Si} {l : List Rd} (h : askF a.ok s l = 0) (hr : ∀ r ∈ l, r.Rng) : MisOk a s l := by
  obtain ⟨h1, h2, h3⟩ := ask_parts h
  unfold Si.ok wellB at h2
  simp only [Bool.and_eq_true] at h2
  unfold okR at h3
  rw [Bool.and_eq_true] at h3
  refine ⟨of_decide_eq_true h3.1, fun r hrm => ?_, hr, h2.1.1.2⟩
  obtain ⟨j, hj⟩ := List.getElem?_of_mem hrm
  have hlt : j < l.length := (List.getElem?_eq_some_iff.1 hj).1
  have ht := okN_pos h3.2 hlt
  rw [timeF_at hj] at ht
  exact ⟨h1, place_le h2.1.1.1.1, place_le h2.1.1.1.2, place_le h2.1.2, place_le h2.2, ht⟩

set_option maxRecDepth 100000 in
set_option maxHeartbeats 1600000 in
theorem specMisfitOf_any (a : Aq) (s : Si) (hs : s.Rng) (v : Value) (l : List Rd) (w : World) (hlen : l.length ≤ 1048576) (hv : RAt w v l) :
    Calls Try.prog 22 #[.agg #[.float .f32 a.T, .float .f32 a.S], .agg s.cells, v] w (RetFI (misR a s l) w) := by
  have HS := Lib.hid hs
  have HV := Lib.hid hv
  clear hs hv
  go_enter Try.func22, Try.ntmps22
  go_wp2_with (with_reducible refine wpList_box rfl ?_)
  intro bA wA hA1 hA2 hA3 hA4
  go_wp2_with (with_reducible refine wpList_box rfl ?_)
  intro b w1 hB1 hB2 hB3 hB4
  have HG := Lib.hid (hA3.later hB4)
  have HBk := Lib.hid hB3
  have HB := Lib.hid (below_next hA4 hB4)
  clear hA3 hA4 hB3 hB4
  go_wp2_with (first | ((with_reducible refine wpList_get HG.out Try.underlying42 rfl (by kernel_rfl) ?_ ?_); rfl) | ((with_reducible refine wpList_get HBk.out Try.underlying46 rfl (by kernel_rfl) ?_ ?_); rfl))
  refine (l04Asked_any a s HS.out v l w1 hlen (HV.out.far HB.out)).mono ?_
  obtain ⟨c, hc⟩ : ∃ c, askF a.ok s l = c := ⟨_, rfl⟩
  have HC := Lib.hid hc
  rw [hc]
  clear hc
  rintro e w2 ⟨rfl, hb2⟩
  have HG2 := Lib.hid (HG.out.later hb2)
  have HBk2 := Lib.hid (HBk.out.later hb2)
  have HB2 := Lib.hid (below_next HB.out hb2)
  clear hb2
  by_cases h0 : c = 0
  · subst h0
    have HR : Hid (misR a s l = (misF a s l, 0)) := by show (if _ then _ else _) = _; rw [if_pos HC.out]
    have HM := Lib.hid (mis_ok HC.out HV.out.rng)
    go_wp2_with (first | ((with_reducible refine wpList_get HG2.out Try.underlying42 rfl (by kernel_rfl) ?_ ?_); rfl) | ((with_reducible refine wpList_get HBk2.out Try.underlying46 rfl (by kernel_rfl) ?_ ?_); rfl))
    refine (l04Misfit_any a s v l w2 HM.out (HV.out.far HB2.out)).mono ?_
    rintro e w3 ⟨q, rfl, hq, hb3⟩
    have HQ := Lib.hid hq
    have HB3 := Lib.hid (below_next HB2.out hb3)
    clear hq hb3
    go_wp2_with fail
    go_ret2
    exact ⟨q, by rw [HR.out]; rfl, by rw [HR.out]; exact HQ.out, HB3.out⟩
  · have HR : Hid (misR a s l = (some 0, c)) := by show (if _ then _ else _) = _; rw [HC.out, if_neg h0]
    go_wp2_with fail
    go_ret2
    exact ⟨0, by rw [HR.out]; rfl, by rw [HR.out]; exact fb0, HB2.out⟩

set_option maxRecDepth 100000 in
set_option maxHeartbeats 1600000 in
theorem MisfitOf_any (a : Aq) (s : Si) (hs : s.Rng) (ha : a.Rng) (v : Value) (l : List Rd) (w : World) (hlen : l.length ≤ 1048576) (hv : RAt w v l) :
    Calls Try.prog 23 #[.agg #[.float .f32 a.T, .float .f32 a.S], .agg s.cells, v] w (RetFI (misR a s l) w) := by
  have HS := Lib.hid hs
  have HV := Lib.hid hv
  have HAR := Lib.hid ha
  clear hs hv ha
  go_enter Try.func23, Try.ntmps23
  go_wp2_with (with_reducible refine wpList_box rfl ?_)
  intro bA wA hA1 hA2 hA3 hA4
  go_wp2_with (with_reducible refine wpList_box rfl ?_)
  intro b w1 hB1 hB2 hB3 hB4
  have HG := Lib.hid (hA3.later hB4)
  have HBk := Lib.hid hB3
  have HB := Lib.hid (below_next hA4 hB4)
  clear hA3 hA4 hB3 hB4
  go_wp2_with (first | ((with_reducible refine wpList_get HG.out Try.underlying42 rfl (by kernel_rfl) ?_ ?_); rfl) | ((with_reducible refine wpList_get HBk.out Try.underlying46 rfl (by kernel_rfl) ?_ ?_); rfl))
  have hone : AAt (w1.alloc (.cells #[.float .f32 a.T, .float .f32 a.S] 42)) (.slice (some ⟨w1.heap.size, 0, none⟩) 1 1) [a] := ⟨_, _, rfl, fun j e he => by
    cases j with
    | zero =>
      simp at he
      subst he
      refine ⟨HAR.out, _, rfl, fun i u hu => ?_⟩
      rw [Nat.zero_mul, Nat.zero_add]
      exact (Blk.new' w1 _ _ rfl).at (by simpa [Aq.cells] using hu)
    | succ j => simp at he⟩
  refine (fitFault_any s HS.out v _ l [a] _ hlen (by simp) ((HV.out.far HB.out).far ((Below.refl _ _).alloc (Nat.le_refl _) _)) hone).mono ?_
  clear hone
  obtain ⟨c, hc⟩ : ∃ c, askF a.ok s l = c := ⟨_, rfl⟩
  have HC := Lib.hid hc
  rw [show [a].all Aq.ok = a.ok by simp, hc]
  clear hc
  rintro e w2 ⟨rfl, hb0⟩
  have hb2 := below_next ((Below.refl w1.heap.size w1).alloc (Nat.le_refl _) _) hb0
  have HG2 := Lib.hid (HG.out.later hb2)
  have HBk2 := Lib.hid (HBk.out.later hb2)
  have HB2 := Lib.hid (below_next HB.out hb2)
  clear hb2 hb0
  by_cases h0 : c = 0
  · subst h0
    have HR : Hid (misR a s l = (misF a s l, 0)) := by show (if _ then _ else _) = _; rw [if_pos HC.out]
    have HM := Lib.hid (mis_ok HC.out HV.out.rng)
    go_wp2_with (first | ((with_reducible refine wpList_get HG2.out Try.underlying42 rfl (by kernel_rfl) ?_ ?_); rfl))
    refine (misfit_any b a s v l w2 HM.out HBk2.out (HV.out.far HB2.out)).mono ?_
    rintro e w3 ⟨q, rfl, hq, hb3⟩
    have HQ := Lib.hid hq
    have HB3 := Lib.hid (below_next HB2.out hb3)
    clear hq hb3
    go_wp2_with fail
    go_ret2
    exact ⟨q, by rw [HR.out]; rfl, by rw [HR.out]; exact HQ.out, HB3.out⟩
  · have HR : Hid (misR a s l = (some 0, c)) := by show (if _ then _ else _) = _; rw [HC.out, if_neg h0]
    go_wp2_with fail
    go_ret2
    exact ⟨0, by rw [HR.out]; rfl, by rw [HR.out]; exact fb0, HB2.out⟩
end Go.Proofs.Ytonmdkhfongmhaa
