/- Readings that are drawn up: both sides. -/
import Derived.Test.YtonmdkhfongmhaaTsmo
import Derived.Test.YtonmdkhfongmhaaTlogw
import Derived.Test.YtonmdkhfongmhaaTM2
namespace Go.Proofs.Ytonmdkhfongmhaa
open Go.RowKit

def tB (f : Nat → Int) (n : Nat) : Bool := decide (n ≤ 40) && okN f n
def rdE (a : Aq) (s : Si) (f : Nat → Int) (i : Nat) : Rd := ⟨f i, logF (downS a s (f i))⟩
def rdL (a : Aq) (s : Si) (f : Nat → Int) (n : Nat) : List Rd := (List.range n).map (rdE a s f)
theorem rdL_more (a : Aq) (s : Si) (f : Nat → Int) (n : Nat) : rdL a s f (n + 1) = rdL a s f n ++ [rdE a s f n] := by unfold rdL; rw [List.range_succ, List.map_append]; rfl
theorem rdL_len (a : Aq) (s : Si) (f : Nat → Int) (n : Nat) : (rdL a s f n).length = n := by unfold rdL; rw [List.length_map, List.length_range]
def rdR (a : Aq) (s : Si) (f : Nat → Int) (n : Nat) : List Rd := if (a.ok && s.ok && tB f n) = true then rdL a s f n else []
def rdC (a : Aq) (s : Si) (f : Nat → Int) (n : Nat) : Int := if (a.ok && s.ok) = true then (if tB f n = true then 0 else 2) else 1
theorem logF_rng (x : F) : -32768 ≤ logF x ∧ logF x ≤ 32767 := by
  unfold logF
  split
  · rename_i h1
    split
    · rename_i h2
      cases hz : fmul x (some 1098907648) with
      | none => rw [hz] at h1; cases h1
      | some b =>
        rw [hz] at h1
        obtain ⟨r, hr, hadd⟩ := up_pos h1
        have e : upF x = some r := by unfold upF; rw [hz]; exact hadd
        rw [e] at h2 ⊢
        exact (cut_ok false (up_low hr h2)).1
    · omega
  · split
    · rename_i h1
      split
      · rename_i h2
        cases hz : fmul x (some 1098907648) with
        | none => rw [hz] at h1; cases h1
        | some b =>
          rw [hz] at h1
          obtain ⟨r, hr, hsub⟩ := dn_neg h1
          have e : dnF x = some (2147483648 + r) := by unfold dnF; rw [hz]; exact hsub
          rw [e] at h2 ⊢
          exact (cut_ok true (dn_low hr h2)).1
      · omega
    · omega
theorem rdR_rng {a : Aq} {s : Si} {f : Nat → Int} {n : Nat} (hf : ∀ j, j < n → -9223372036854775808 ≤ f j ∧ f j ≤ 9223372036854775807) : ∀ e ∈ rdR a s f n, e.Rng := by
  intro e he
  unfold rdR at he
  split at he
  · unfold rdL at he
    obtain ⟨j, hj, rfl⟩ := List.mem_map.1 he
    exact ⟨hf j (List.mem_range.1 hj), logF_rng _⟩
  · cases he
theorem rdR_len (a : Aq) (s : Si) (f : Nat → Int) (n : Nat) : (rdR a s f n).length ≤ 40 := by
  unfold rdR
  split
  · rename_i h
    rw [rdL_len]
    unfold tB at h
    simp only [Bool.and_eq_true, decide_eq_true_eq] at h
    exact h.2.1
  · exact Nat.zero_le _
theorem si_ok {a : Aq} {s : Si} {f : Nat → Int} {n j : Nat} (h1 : a.ok = true) (h2 : s.ok = true) (h3 : tB f n = true) (hj : j < n) : SiOk a s (f j) := by
  unfold Si.ok wellB at h2
  simp only [Bool.and_eq_true] at h2
  unfold tB at h3
  rw [Bool.and_eq_true] at h3
  exact ⟨h1, place_le h2.1.1.1.1, place_le h2.1.1.1.2, place_le h2.1.2, place_le h2.2, okN_pos h3.2 hj⟩
/-- What is told. -/
def RetRdf (a : Aq) (s : Si) (f : Nat → Int) (n : Nat) (w : World) (e : Ending) (w' : World) : Prop :=
  ∃ u, e = .returned (.tuple #[u, .int .i64 (rdC a s f n)]) ∧ w'.ownsRow w.heap.size 81 2 u (rdR a s f n).length (rds (rdR a s f n)) ∧ Below w.heap.size w w'
/-- The words of the two callees. -/
def SDL (x : F) (n : Int) (f : FuncId) (_ : Array Value) (v : Value) : Prop := (f = 72 ∧ ∃ r, v = .float .f32 r ∧ Is r x) ∨ (f = 71 ∧ v = .int .i16 n)
def RfRel (f : Nat → Int) (n : Nat) (w : World) (v8 v9 v10 : Value) (wr : World) : Prop :=
  ∃ (j : Nat) (b : Bool) (la : Int), j ≤ n ∧ v10 = .int .i64 j ∧ v8 = .bool b ∧ v9 = .int .i64 la ∧ ((b = true ∧ n ≤ 40 ∧ okN f j = true ∧ la = lastT f j) ∨ (b = false ∧ tB f n = false)) ∧ w = wr
def RgRel (a : Aq) (s : Si) (f : Nat → Int) (n : Nat) (w : World) (v11 v12 : Value) (wr : World) : Prop :=
  ∃ j : Nat, j ≤ n ∧ v12 = .int .i64 j ∧ wr.ownsRow w.heap.size 81 2 v11 (rdL a s f j).length (rds (rdL a s f j)) ∧ Below w.heap.size w wr

set_option maxRecDepth 100000 in
set_option maxHeartbeats 3200000 in
theorem Rdf_any (a : Aq) (s : Si) (hs : s.Rng) (v : Value) (f : Nat → Int) (n : Nat) (w : World) (hn : n ≤ 1048576) (hv : TsAt w v f n) :
    Calls Try.prog 26 #[.agg #[.float .f32 a.T, .float .f32 a.S], .agg s.cells, v] w (RetRdf a s f n w) := by
  obtain ⟨i0, hi, hz0, hz1, hz2⟩ := info_parts infoRd
  have HS := Lib.hid hs
  obtain ⟨aL, cap, rfl, hL⟩ := hv
  have HT : Hid (TsAt w (.slice aL n cap) f n) := ⟨aL, cap, rfl, hL⟩
  have HL := Lib.hid hL
  clear hs hL
  cases hao : a.ok
  · have HA : Hid (okA (fb a.T) (fb a.S) = false) := hao
    have HR : Hid (rdR a s f n = []) := by show (if _ then _ else _) = _; rw [hao]; rfl
    have HC : Hid (rdC a s f n = 1) := by show (if _ then _ else _) = _; rw [hao]; rfl
    clear hao
    go_enter Try.func26, Try.ntmps26
    go_wp2_with (with_reducible refine wpList_box rfl ?_)
    intro bA wA hA1 hA2 hA3 hA4
    go_wp2_with (with_reducible refine wpList_box rfl ?_)
    intro bS wS hS1 hS2 hS3 hS4
    have HG := Lib.hid (hA3.later hS4)
    have HB := Lib.hid (below_next hA4 hS4)
    clear hA3 hA4 hS3 hS4
    go_wp2_with (first | ((with_reducible refine wpList_get HG.out Try.underlying42 rfl (by kernel_rfl) ?_ ?_); rfl) | (go_at_call 73; refine (ValidAquifer_any a.T a.S _).mono ?_; rw [HA.out]; rintro e w2 ⟨rfl, hb2⟩))
    go_ret2
    exact ⟨_, by rw [HC.out]; rfl, by rw [HR.out]; exact World.ownsRow_nil _ _ _ _, below_next HB.out hb2⟩
  · have HA : Hid (okA (fb a.T) (fb a.S) = true) := hao
    cases hso : s.ok
    · have HSO := Lib.hid hso
      have HR : Hid (rdR a s f n = []) := by show (if _ then _ else _) = _; rw [hao, hso]; rfl
      have HC : Hid (rdC a s f n = 1) := by show (if _ then _ else _) = _; rw [hao, hso]; rfl
      clear hao hso
      go_enter Try.func26, Try.ntmps26
      go_wp2_with (with_reducible refine wpList_box rfl ?_)
      intro bA wA hA1 hA2 hA3 hA4
      go_wp2_with (with_reducible refine wpList_box rfl ?_)
      intro bS wS hS1 hS2 hS3 hS4
      have HG := Lib.hid (hA3.later hS4)
      have HBk := Lib.hid hS3
      have HB := Lib.hid (below_next hA4 hS4)
      clear hA3 hA4 hS3 hS4
      go_wp2_with (first | ((with_reducible refine wpList_get HG.out Try.underlying42 rfl (by kernel_rfl) ?_ ?_); rfl) | (go_at_call 73; refine (ValidAquifer_any a.T a.S _).mono ?_; rw [HA.out]; rintro e w2 ⟨rfl, hb2⟩; have HBk2 := Lib.hid (HBk.out.later hb2)) | ((with_reducible refine wpList_getgd ?_ HBk2.out Try.underlying46 rfl (by kernel_rfl) ?_ ?_); (exact rfl); rfl) | (go_at_call 74; refine (ValidSite_any s HS.out _).mono ?_; rw [HSO.out]; rintro e w3 ⟨rfl, hb3⟩))
      go_ret2
      exact ⟨_, by rw [HC.out]; rfl, by rw [HR.out]; exact World.ownsRow_nil _ _ _ _, below_next (below_next HB.out hb2) hb3⟩
    · have HSO := Lib.hid hso
      cases ht : tB f n
      · have HTB : Hid ((decide (n ≤ 40) && okN f n) = false) := ht
        have HR : Hid (rdR a s f n = []) := by show (if _ then _ else _) = _; rw [hao, hso, ht]; rfl
        have HC : Hid (rdC a s f n = 2) := by show (if _ then _ else _) = _; rw [hao, hso, ht]; rfl
        clear hao hso ht
        go_enter Try.func26, Try.ntmps26
        go_wp2_with (with_reducible refine wpList_box rfl ?_)
        intro bA wA hA1 hA2 hA3 hA4
        go_wp2_with (with_reducible refine wpList_box rfl ?_)
        intro bS wS hS1 hS2 hS3 hS4
        have HG := Lib.hid (hA3.later hS4)
        have HBk := Lib.hid hS3
        have HB := Lib.hid (below_next hA4 hS4)
        clear hA3 hA4 hS3 hS4
        go_wp2_with (first | ((with_reducible refine wpList_get HG.out Try.underlying42 rfl (by kernel_rfl) ?_ ?_); rfl) | (go_at_call 73; refine (ValidAquifer_any a.T a.S _).mono ?_; rw [HA.out]; rintro e w2 ⟨rfl, hb2⟩; have HBk2 := Lib.hid (HBk.out.later hb2)) | ((with_reducible refine wpList_getgd ?_ HBk2.out Try.underlying46 rfl (by kernel_rfl) ?_ ?_); (exact rfl); rfl) | (go_at_call 74; refine (ValidSite_any s HS.out _).mono ?_; rw [HSO.out]; rintro e w3 ⟨rfl, hb3⟩; have HB3 := Lib.hid (below_next (below_next HB.out hb2) hb3)) | (go_at_call 75; refine (timesOk_any _ f n _ hn (HT.out.far HB3.out)).mono ?_; rw [HTB.out]; rintro e w4 ⟨rfl, rfl⟩))
        go_ret2
        exact ⟨_, by rw [HC.out]; rfl, by rw [HR.out]; exact World.ownsRow_nil _ _ _ _, HB3.out⟩
      · have HTB : Hid ((decide (n ≤ 40) && okN f n) = true) := ht
        have HR : Hid (rdR a s f n = rdL a s f n) := by show (if _ then _ else _) = _; rw [hao, hso, ht]; rfl
        have HC : Hid (rdC a s f n = 0) := by show (if _ then _ else _) = _; rw [hao, hso, ht]; rfl
        have HSK : Hid (∀ j, j < n → SiOk a s (f j)) := fun j hj => si_ok hao hso ht hj
        have h40 : n ≤ 40 := by have h := HTB.out; rw [Bool.and_eq_true] at h; exact of_decide_eq_true h.1
        clear hao hso ht
        go_enter Try.func26, Try.ntmps26
        go_wp2_with (with_reducible refine wpList_box rfl ?_)
        intro bA wA hA1 hA2 hA3 hA4
        go_wp2_with (with_reducible refine wpList_box rfl ?_)
        intro bS wS hS1 hS2 hS3 hS4
        have HG := Lib.hid (hA3.later hS4)
        have HBk := Lib.hid hS3
        have HB := Lib.hid (below_next hA4 hS4)
        clear hA3 hA4 hS3 hS4
        go_wp2_with (first | ((with_reducible refine wpList_get HG.out Try.underlying42 rfl (by kernel_rfl) ?_ ?_); rfl) | (go_at_call 73; refine (ValidAquifer_any a.T a.S _).mono ?_; rw [HA.out]; rintro e w2 ⟨rfl, hb2⟩; have HBk2 := Lib.hid (HBk.out.later hb2)) | ((with_reducible refine wpList_getgd ?_ HBk2.out Try.underlying46 rfl (by kernel_rfl) ?_ ?_); (exact rfl); rfl) | (go_at_call 74; refine (ValidSite_any s HS.out _).mono ?_; rw [HSO.out]; rintro e w3 ⟨rfl, hb3⟩; have HB3 := Lib.hid (below_next (below_next HB.out hb2) hb3); have HG3 := Lib.hid ((HG.out.later hb2).later hb3); have HS3 := Lib.hid (HBk2.out.later hb3); clear hb2 hb3) | (go_at_call 75; refine (timesOk_any _ f n _ hn (HT.out.far HB3.out)).mono ?_; rw [HTB.out]; rintro e w4 ⟨rfl, rfl⟩))
        go_loopw [8, 27] (fun v8 v27 wr => RgRel a s f n w3 v8 v27 wr) (fun _ v27 _ => n - (intOf v27).toNat)
        case atStart => exact ⟨0, by omega, rfl, World.ownsRow_lit w3 #[] 0 (Nat.le_refl _) (by simp [maxLen]) rfl, (Below.refl _ _).alloc (Nat.le_refl _) _⟩
        case round =>
          obtain ⟨j, hj, rfl, hown, hB⟩ := hrel
          have HO := Lib.hid hown
          have HX := Lib.hid hB
          clear hown hB
          by_cases hlt : j < n
          · obtain ⟨gq, oq, rfl, hq⟩ := HL.out j hlt
            have hqc := cell_below (below_next HB3.out HX.out) hq
            have j1 : (j : Int) < (n : Int) := by omega
            have hbs := HX.out.size
            obtain ⟨t, ht⟩ : ∃ t, f j = t := ⟨_, rfl⟩
            rw [ht] at hqc
            have HSJ : Hid (SiOk a s t) := by show SiOk _ _ _; rw [← ht]; exact HSK.out j hlt
            have HMORE : Hid (rdL a s f (j + 1) = rdL a s f j ++ [⟨t, logF (downS a s t)⟩]) := by show _ = _; rw [rdL_more, ← ht]; rfl
            have HRL := Lib.hid (rdL_len a s f j)
            have HG4 := Lib.hid (HG3.out.later HX.out)
            have HS4 := Lib.hid (HS3.out.later HX.out)
            obtain ⟨lg, hlg⟩ : ∃ lg, logF (downS a s t) = lg := ⟨_, rfl⟩
            have HLG := Lib.hid hlg
            rw [hlg] at HMORE
            clear hq ht hlg
            go_wp2_with (first | ((with_reducible refine wpList_get HG4.out Try.underlying42 rfl (by kernel_rfl) ?_ ?_); rfl) | (go_at_call 77; refine (drawS_any bS a s t _ HSJ.out HS4.out).mono ?_; rintro e5 w5 ⟨q5, rfl, hq5, hb5⟩) | (go_at_call 76; refine (LoggerOf_any _ _ _ hq5).mono ?_; rw [HLG.out]; rintro e6 w6 ⟨rfl, hb6⟩; have HO6 := Lib.hid (owns_belowN (owns_belowN HO.out hb5) hb6); have HX6 := Lib.hid (below_next (below_next HX.out hb5) hb6); have hbs6 := HX6.out.size; clear hb5 hb6) | (at_builtin; refine wpList_append_own _ rfl _ _ 27 rfl w3.heap.size 81 i0 (.agg #[.int .i64 0, .int .i16 0]) 2 16 Try.underlying27 hi hz0 hz1 hz2 rfl (by decide) _ _ _ rfl (HO6.out.alloc _) ⟨w6.heap.size, 0, none⟩ 1 1 [.int .i64 t, .int .i16 lg] rfl rfl (cells_new w6 #[.int .i64 t, .int .i16 lg] 81) (by simp [Value.oneCell']) (by rw [HRL.out]; unfold maxLen; omega) (by rw [HRL.out]; omega) (by simp; omega) ?_))
            intro v' w7 hown7 hgrow _
            have HO7 : Hid (w7.ownsRow w3.heap.size 81 2 v' (rdL a s f (j + 1)).length (rds (rdL a s f (j + 1)))) := by
              show World.ownsRow _ _ _ _ _ _ _
              rw [HMORE.out, rds_snoc, List.length_append]
              exact hown7
            have HX7 : Hid (Below w3.heap.size w3 w7) := (HX6.out.alloc hbs6 _).grown hgrow (by simp; omega) (fun q hq => (HO6.out.lt q hq).1)
            clear hown7 hgrow
            go_wp2_with fail
            go_roundw
            case rel => exact ⟨j + 1, by omega, by go_num, HO7.out, HX7.out⟩
            case measure => simp [intOf]; omega
          · have j1 : ¬ (j : Int) < (n : Int) := by omega
            obtain rfl : j = n := by omega
            go_wp2_with fail
            go_ret2
            exact ⟨_, by rw [HC.out]; rfl, by rw [HR.out]; exact owns_monoN HO.out HB3.out.size, below_next HB3.out HX.out⟩

set_option maxRecDepth 100000 in
set_option maxHeartbeats 3200000 in
theorem specRdf_any (a : Aq) (s : Si) (hs : s.Rng) (v : Value) (f : Nat → Int) (n : Nat) (w : World) (hn : n ≤ 1048576) (hv : TsAt w v f n) :
    Calls Try.prog 24 #[.agg #[.float .f32 a.T, .float .f32 a.S], .agg s.cells, v] w (RetRdf a s f n w) := by
  obtain ⟨i0, hi, hz0, hz1, hz2⟩ := info_parts infoRd
  have HS := Lib.hid hs
  obtain ⟨aL, cap, rfl, hL⟩ := hv
  have HT : Hid (TsAt w (.slice aL n cap) f n) := ⟨aL, cap, rfl, hL⟩
  have HL := Lib.hid hL
  clear hs hL
  cases hao : a.ok
  · have HA : Hid (okA (fb a.T) (fb a.S) = false) := hao
    have HR : Hid (rdR a s f n = []) := by show (if _ then _ else _) = _; rw [hao]; rfl
    have HC : Hid (rdC a s f n = 1) := by show (if _ then _ else _) = _; rw [hao]; rfl
    clear hao
    go_enter Try.func24, Try.ntmps24
    go_wp2_with (with_reducible refine wpList_box rfl ?_)
    intro bA wA hA1 hA2 hA3 hA4
    go_wp2_with (with_reducible refine wpList_box rfl ?_)
    intro bS wS hS1 hS2 hS3 hS4
    have HG := Lib.hid (hA3.later hS4)
    have HB := Lib.hid (below_next hA4 hS4)
    clear hA3 hA4 hS3 hS4
    go_wp2_with (first | ((with_reducible refine wpList_get HG.out Try.underlying42 rfl (by kernel_rfl) ?_ ?_); rfl) | (go_at_call 68; refine (l03Aquifer_any a.T a.S _).mono ?_; rw [HA.out]; rintro e w2 ⟨rfl, hb2⟩; have HB2 := Lib.hid (below_next HB.out hb2); clear hb2))
    go_ret2
    exact ⟨_, by rw [HC.out]; rfl, by rw [HR.out]; exact World.ownsRow_lit w2 #[] 0 HB2.out.size (by simp [maxLen]) rfl, HB2.out.alloc HB2.out.size _⟩
  · have HA : Hid (okA (fb a.T) (fb a.S) = true) := hao
    cases hso : s.ok
    · have HSO := Lib.hid hso
      have HR : Hid (rdR a s f n = []) := by show (if _ then _ else _) = _; rw [hao, hso]; rfl
      have HC : Hid (rdC a s f n = 1) := by show (if _ then _ else _) = _; rw [hao, hso]; rfl
      clear hao hso
      go_enter Try.func24, Try.ntmps24
      go_wp2_with (with_reducible refine wpList_box rfl ?_)
      intro bA wA hA1 hA2 hA3 hA4
      go_wp2_with (with_reducible refine wpList_box rfl ?_)
      intro bS wS hS1 hS2 hS3 hS4
      have HG := Lib.hid (hA3.later hS4)
      have HBk := Lib.hid hS3
      have HB := Lib.hid (below_next hA4 hS4)
      clear hA3 hA4 hS3 hS4
      go_wp2_with (first | ((with_reducible refine wpList_get HG.out Try.underlying42 rfl (by kernel_rfl) ?_ ?_); rfl) | (go_at_call 68; refine (l03Aquifer_any a.T a.S _).mono ?_; rw [HA.out]; rintro e w2 ⟨rfl, hb2⟩; have HBk2 := Lib.hid (HBk.out.later hb2)) | ((with_reducible refine wpList_getgd ?_ HBk2.out Try.underlying46 rfl (by kernel_rfl) ?_ ?_); (exact rfl); rfl) | (go_at_call 69; refine (l04Site_any s HS.out _).mono ?_; rw [HSO.out]; rintro e w3 ⟨rfl, hb3⟩; have HB3 := Lib.hid (below_next (below_next HB.out hb2) hb3); clear hb2 hb3))
      go_ret2
      exact ⟨_, by rw [HC.out]; rfl, by rw [HR.out]; exact World.ownsRow_lit w3 #[] 0 HB3.out.size (by simp [maxLen]) rfl, HB3.out.alloc HB3.out.size _⟩
    · have HSO := Lib.hid hso
      have HRC : Hid (if tB f n = true then rdR a s f n = rdL a s f n ∧ rdC a s f n = 0 ∧ (∀ j, j < n → SiOk a s (f j)) ∧ n ≤ 40 else rdR a s f n = [] ∧ rdC a s f n = 2) := by
        show if _ then _ else _
        cases ht : tB f n
        · rw [if_neg (by decide)]
          exact ⟨by unfold rdR; rw [hao, hso, ht]; rfl, by unfold rdC; rw [hao, hso, ht]; rfl⟩
        · rw [if_pos rfl]
          exact ⟨by unfold rdR; rw [hao, hso, ht]; rfl, by unfold rdC; rw [hao, hso, ht]; rfl, fun j hj => si_ok hao hso ht hj, by unfold tB at ht; rw [Bool.and_eq_true] at ht; exact of_decide_eq_true ht.1⟩
      clear hao hso
      obtain ⟨b0, hb0⟩ : ∃ b, decide (n ≤ 40) = b := ⟨_, rfl⟩
      have HB0 := Lib.hid hb0
      have hd40 : decide ((n : Int) ≤ 40) = b0 := by rw [← hb0]; exact decide_eq_decide.2 (by omega)
      clear hb0
      go_enter Try.func24, Try.ntmps24
      go_wp2_with (with_reducible refine wpList_box rfl ?_)
      intro bA wA hA1 hA2 hA3 hA4
      go_wp2_with (with_reducible refine wpList_box rfl ?_)
      intro bS wS hS1 hS2 hS3 hS4
      have HG := Lib.hid (hA3.later hS4)
      have HBk := Lib.hid hS3
      have HB := Lib.hid (below_next hA4 hS4)
      clear hA3 hA4 hS3 hS4
      go_wp2_with (first | ((with_reducible refine wpList_get HG.out Try.underlying42 rfl (by kernel_rfl) ?_ ?_); rfl) | (go_at_call 68; refine (l03Aquifer_any a.T a.S _).mono ?_; rw [HA.out]; rintro e w2 ⟨rfl, hb2⟩; have HBk2 := Lib.hid (HBk.out.later hb2)) | ((with_reducible refine wpList_getgd ?_ HBk2.out Try.underlying46 rfl (by kernel_rfl) ?_ ?_); (exact rfl); rfl) | (go_at_call 69; refine (l04Site_any s HS.out _).mono ?_; rw [HSO.out]; rintro e w3 ⟨rfl, hb3⟩; have HB3 := Lib.hid (below_next (below_next HB.out hb2) hb3); have HG3 := Lib.hid ((HG.out.later hb2).later hb3); have HS3 := Lib.hid (HBk2.out.later hb3); clear hb2 hb3))
      go_loopw [8, 9, 10] (fun v8 v9 v10 wr => RfRel f n w3 v8 v9 v10 wr) (fun _ _ v10 _ => n - (intOf v10).toNat)
      case atStart =>
        refine ⟨0, b0, 0, by omega, rfl, rfl, rfl, ?_, rfl⟩
        cases b0
        · exact .inr ⟨rfl, by unfold tB; rw [HB0.out]; rfl⟩
        · exact .inl ⟨rfl, of_decide_eq_true HB0.out, rfl, rfl⟩
      case round =>
        obtain ⟨j, b, la, hj, rfl, rfl, rfl, hcase, rfl⟩ := hrel
        by_cases hlt : j < n
        · have j1 : (j : Int) < (n : Int) := by omega
          rcases hcase with hf | hf
          · obtain ⟨rfl, h40, hokj, rfl⟩ := hf
            obtain ⟨gq, oq, rfl, hq⟩ := HL.out j hlt
            have hqc := cell_below HB3.out hq
            obtain ⟨t, ht⟩ : ∃ t, f j = t := ⟨_, rfl⟩
            rw [ht] at hqc
            have hla2 : -9223372036854775808 ≤ lastT f j + 1 ∧ lastT f j + 1 ≤ 9223372036854775807 := by
              unfold lastT
              by_cases h0 : j = 0
              · rw [if_pos h0]; omega
              · rw [if_neg h0]
                have := okN_pos hokj (i := j - 1) (by omega)
                omega
            obtain ⟨la1, la2⟩ := hla2
            obtain ⟨la, hla⟩ : ∃ la, lastT f j = la := ⟨_, rfl⟩
            rw [hla] at la1 la2 ⊢
            obtain ⟨z, hz⟩ : ∃ z, (decide (la + 1 ≤ t) && decide (t ≤ 100000)) = z := ⟨_, rfl⟩
            have HZ := Lib.hid hz
            have HNX : Hid ((z = true ∧ n ≤ 40 ∧ okN f (j + 1) = true ∧ t = lastT f (j + 1)) ∨ (z = false ∧ tB f n = false)) := by
              show _ ∨ _
              have hok : okAt f j = z := by rw [okAt_iff, hla, ht]; exact hz
              cases z
              · exact .inr ⟨rfl, by unfold tB; rw [okN_false hlt hok]; simp⟩
              · exact .inl ⟨rfl, h40, okN_succ hokj hok, by unfold lastT; rw [if_neg (by omega), Nat.add_sub_cancel, ht]⟩
            clear hz hq ht hla hokj
            go_wp2_with (go_at_call 70; refine (l00In_any _ _ _ _).mono ?_; rw [HZ.out]; rintro e w' ⟨rfl, rfl⟩)
            go_roundw
            case rel => exact ⟨j + 1, z, t, by omega, by go_num, rfl, rfl, HNX.out, rfl⟩
            case measure => simp [intOf]; omega
          · obtain ⟨rfl, ht⟩ := hf
            have HR := HRC.out
            rw [if_neg (by rw [ht]; decide)] at HR
            obtain ⟨hR, hC⟩ := HR
            have HR := Lib.hid hR
            have HC := Lib.hid hC
            clear hR hC ht HRC
            go_wp2_with fail
            go_ret2
            exact ⟨_, by rw [HC.out]; rfl, by rw [HR.out]; exact World.ownsRow_lit w3 #[] 0 HB3.out.size (by simp [maxLen]) rfl, HB3.out.alloc HB3.out.size _⟩
        · have j1 : ¬ (j : Int) < (n : Int) := by omega
          obtain rfl : j = n := by omega
          rcases hcase with hf | hf
          · obtain ⟨rfl, h40, hokj, rfl⟩ := hf
            have HR := HRC.out
            rw [if_pos (by unfold tB; rw [decide_eq_true h40, hokj]; rfl)] at HR
            obtain ⟨hR, hC, hSK, _⟩ := HR
            have HR := Lib.hid hR
            have HC := Lib.hid hC
            have HSK : Hid (∀ i, i < j → SiOk a s (f i)) := hSK
            clear hR hC hSK HRC hokj hd40
            go_wp2_with fail
            go_loopw [11, 12] (fun v11 v12 wr => RgRel a s f j w3 v11 v12 wr) (fun _ v12 _ => j - (intOf v12).toNat)
            case atStart => exact ⟨0, by omega, rfl, World.ownsRow_lit w3 #[] 0 (Nat.le_refl _) (by simp [maxLen]) rfl, (Below.refl _ _).alloc (Nat.le_refl _) _⟩
            case round =>
              obtain ⟨i, hij, rfl, hown, hB⟩ := hrel
              have HO := Lib.hid hown
              have HX := Lib.hid hB
              clear hown hB
              by_cases hlt2 : i < j
              · obtain ⟨gq, oq, rfl, hq⟩ := HL.out i hlt2
                have hqc := cell_below (below_next HB3.out HX.out) hq
                have j2 : (i : Int) < (j : Int) := by omega
                have hbs := HX.out.size
                obtain ⟨t, ht⟩ : ∃ t, f i = t := ⟨_, rfl⟩
                rw [ht] at hqc
                have HSJ : Hid (SiOk a s t) := by show SiOk _ _ _; rw [← ht]; exact HSK.out i hlt2
                have HMORE : Hid (rdL a s f (i + 1) = rdL a s f i ++ [⟨t, logF (downS a s t)⟩]) := by show _ = _; rw [rdL_more, ← ht]; rfl
                have HRL := Lib.hid (rdL_len a s f i)
                obtain ⟨lg, hlg⟩ : ∃ lg, logF (downS a s t) = lg := ⟨_, rfl⟩
                have HLG := Lib.hid hlg
                rw [hlg] at HMORE
                have hq3 : w3.cell? ⟨gq, oq + i, none⟩ = some (.int .i64 t) := by rw [← ht]; exact cell_below HB3.out hq
                have KS : Hid (∀ w', Below w3.heap.size w3 w' → w'.cell? ⟨bA, 0, none⟩ = some (.float .f32 a.T) ∧ w'.cell? ⟨bA, 1, none⟩ = some (.float .f32 a.S) ∧ w'.cell? ⟨gq, oq + i, none⟩ = some (.int .i64 t) ∧ w'.cell? ⟨bS, 0, none⟩ = some (.int .i8 s.x) ∧ w'.cell? ⟨bS, 1, none⟩ = some (.int .i8 s.y) ∧ w'.cell? ⟨bS, 2, none⟩ = some (.float .f32 s.r) ∧ w'.cell? ⟨bS, 3, none⟩ = some (.int .i8 s.px) ∧ w'.cell? ⟨bS, 4, none⟩ = some (.int .i8 s.py)) :=
                  fun w' hb => ⟨(HG3.out.later hb).at rfl, (HG3.out.later hb).at rfl, cell_below hb hq3, (HS3.out.later hb).at rfl, (HS3.out.later hb).at rfl, (HS3.out.later hb).at rfl, (HS3.out.later hb).at rfl, (HS3.out.later hb).at rfl⟩
                obtain ⟨c0, c1, d0, e0, e1, e2, e3, e4⟩ := KS.out wr HX.out
                clear hq ht hlg hqc hq3
                go_wp2_with fail
                go_region_held3 (fun w' => w'.cell? ⟨bA, 0, none⟩ = some (.float .f32 a.T) ∧ w'.cell? ⟨bA, 1, none⟩ = some (.float .f32 a.S) ∧ w'.cell? ⟨gq, oq + i, none⟩ = some (.int .i64 t) ∧ w'.cell? ⟨bS, 0, none⟩ = some (.int .i8 s.x) ∧ w'.cell? ⟨bS, 1, none⟩ = some (.int .i8 s.y) ∧ w'.cell? ⟨bS, 2, none⟩ = some (.float .f32 s.r) ∧ w'.cell? ⟨bS, 3, none⟩ = some (.int .i8 s.px) ∧ w'.cell? ⟨bS, 4, none⟩ = some (.int .i8 s.py)) (first | exact ⟨c0, c1, d0, e0, e1, e2, e3, e4⟩ | exact KS.out _ (below_next (below_drew HX.out) hb5) | exact KS.out _ (below_next (below_next (below_drew HX.out) hb5) hb6) | exact KS.out _ ((below_next (below_next (below_drew HX.out) hb5) hb6).alloc (Nat.le_trans (show w3.heap.size ≤ wr.drew.heap.size from hbs) (Nat.le_trans hb5.size hb6.size)) _) | exact KS.out _ HX7 | go_keep) (first | (go_at_call 72; refine (l04Drawdown_any a s t _ HSJ.out).mono ?_; rintro e5 w5 ⟨q5, rfl, hq5, hb5⟩) | (go_at_call 71; refine (l04Logger_any q5 _ _ hq5).mono ?_; rw [HLG.out]; rintro e6 w6 ⟨rfl, hb6⟩) | (refine step_append_lies _ rfl _ _ 27 rfl w3.heap.size 81 i0 (.agg #[.int .i64 0, .int .i16 0]) 2 16 Try.underlying27 hi hz0 hz1 hz2 rfl (by decide) _ _ _ rfl ((owns_belowN (owns_belowN (w := wr.drew) HO.out hb5) hb6).alloc _) ⟨w6.heap.size, 0, none⟩ 1 1 [.int .i64 t, .int .i16 lg] rfl rfl (cells_new w6 #[.int .i64 t, .int .i16 lg] 81) (by simp [Value.oneCell']) (by decide) (by rw [HRL.out]; unfold maxLen; omega) (by rw [HRL.out]; omega) (by have h9 : w3.heap.size ≤ w6.heap.size := Nat.le_trans (show w3.heap.size ≤ wr.drew.heap.size from hbs) (Nat.le_trans hb5.size hb6.size); simp; omega) _ rfl ?_; intro gA capA w7 hown7 hgrow hat hlt7; have HX7 : Below w3.heap.size w3 w7 := ((below_next (below_next (below_drew HX.out) hb5) hb6).alloc (Nat.le_trans (show w3.heap.size ≤ wr.drew.heap.size from hbs) (Nat.le_trans hb5.size hb6.size)) _).grown hgrow (by have h9 : w3.heap.size ≤ w6.heap.size := Nat.le_trans (show w3.heap.size ≤ wr.drew.heap.size from hbs) (Nat.le_trans hb5.size hb6.size); simp; omega) (fun q hq => (HO.out.lt q hq).1)))
                have HO7 : Hid (w7.ownsRow w3.heap.size 81 2 (.slice (some ⟨gA, 0, none⟩) ((rdL a s f i).length + 1) capA) (rdL a s f (i + 1)).length (rds (rdL a s f (i + 1)))) := by
                  show World.ownsRow _ _ _ _ _ _ _
                  rw [HMORE.out, rds_snoc, List.length_append]
                  exact hown7
                have HX8 := Lib.hid HX7
                clear hown7 hgrow HX7
                go_wp2_with fail
                go_roundw
                case rel => exact ⟨i + 1, by omega, by go_num, HO7.out, HX8.out⟩
                case measure => simp [intOf]; omega
              · have j2 : ¬ (i : Int) < (j : Int) := by omega
                obtain rfl : i = j := by omega
                go_wp2_with fail
                go_ret2
                exact ⟨_, by rw [HC.out]; rfl, by rw [HR.out]; exact owns_monoN HO.out HB3.out.size, below_next HB3.out HX.out⟩
          · obtain ⟨rfl, ht⟩ := hf
            have HR := HRC.out
            rw [if_neg (by rw [ht]; decide)] at HR
            obtain ⟨hR, hC⟩ := HR
            have HR := Lib.hid hR
            have HC := Lib.hid hC
            clear hR hC ht HRC
            go_wp2_with fail
            go_ret2
            exact ⟨_, by rw [HC.out]; rfl, by rw [HR.out]; exact World.ownsRow_lit w3 #[] 0 HB3.out.size (by simp [maxLen]) rfl, HB3.out.alloc HB3.out.size _⟩
end Go.Proofs.Ytonmdkhfongmhaa
