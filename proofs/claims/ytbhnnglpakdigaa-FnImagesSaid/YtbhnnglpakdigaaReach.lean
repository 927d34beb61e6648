/- The law on reaches: its walk. -/
import Derived.Test.YtbhnnglpakdigaaDat
import Derived.Test.YtbhnnglpakdigaaWrad
import Derived.Test.YtbhnnglpakdigaaDrawW
import Derived.Test.YtbhnnglpakdigaaMid
namespace Go.Proofs.Ytbhnnglpakdigaa
open Go.RowKit

theorem until_spec {d : Int → F} {lev : F} : ∀ (n : Nat) (t t1 c1 : Int), untilK d lev n t = (t1, c1) →
    (c1 = 0 ∧ t ≤ t1 ∧ t1 < t + n ∧ fge (d t1) lev = true ∧ ∀ k, t ≤ k → k < t1 → fge (d k) lev = false) ∨ (c1 = 6 ∧ t1 = 0 ∧ ∀ k, t ≤ k → k < t + n → fge (d k) lev = false)
  | 0, t, t1, c1, h => by
    cases h
    exact .inr ⟨rfl, rfl, fun k _ _ => by omega⟩
  | n + 1, t, t1, c1, h => by
    cases hg : fge (d t) lev
    · rw [untilK_no hg] at h
      rcases until_spec n (t + 1) t1 c1 h with ⟨h1, h2, h3, h4, h5⟩ | ⟨h1, h2, h3⟩
      · exact .inl ⟨h1, by omega, by omega, h4, fun k hk hk2 => by
          by_cases e : k = t
          · subst e; exact hg
          · exact h5 k (by omega) hk2⟩
      · exact .inr ⟨h1, h2, fun k hk hk2 => by
          by_cases e : k = t
          · subst e; exact hg
          · exact h3 k (by omega) (by omega)⟩
    · rw [untilK_yes hg] at h
      cases h
      exact .inl ⟨rfl, by omega, by omega, hg, fun k _ _ => by omega⟩
theorem far_spec {d : Int → F} {lev : F} : ∀ (n : Nat) (x : Int), 100 < x + n → x ≤ 101 →
    x ≤ farK d lev n x ∧ farK d lev n x ≤ 101 ∧ (∀ k, x ≤ k → k < farK d lev n x → fge (d k) lev = true) ∧ (farK d lev n x ≤ 100 → fge (d (farK d lev n x)) lev = false)
  | 0, x, h, h1 => by
    have e : farK d lev 0 x = x := rfl
    rw [e]
    exact ⟨Int.le_refl _, h1, fun k _ _ => by omega, fun hh => by omega⟩
  | n + 1, x, h, h1 => by
    by_cases hx : x ≤ 100
    · cases hg : fge (d x) lev
      · rw [farK_no hg]
        exact ⟨Int.le_refl _, h1, fun k _ _ => by omega, fun _ => hg⟩
      · rw [farK_yes hx hg]
        obtain ⟨a1, a2, a3, a4⟩ := far_spec n (x + 1) (by omega) (by omega)
        refine ⟨by omega, a2, fun k hk hk2 => ?_, a4⟩
        by_cases e : k = x
        · subst e; exact hg
        · exact a3 k (by omega) hk2
    · rw [farK_out hx]
      exact ⟨Int.le_refl _, h1, fun k _ _ => by omega, fun hh => by omega⟩

theorem ask_one {T S R : Nat} {X Y x y t : Int} (hA : okA (fb T) (fb S) = true) (hX : -100 ≤ X ∧ X ≤ 100) (hY : -100 ≤ Y ∧ Y ≤ 100) (hR : plain (fb R) = true) (hx : -100 ≤ x ∧ x ≤ 100) (hy : -100 ≤ y ∧ y ≤ 100) (ht : 1 ≤ t ∧ t ≤ 100000) :
    askW (okA (fb T) (fb S)) [⟨X, Y, R⟩] x y [t] = 0 := by
  unfold askW
  have h1 : ([⟨X, Y, R⟩] : List We).all We.ok = true := by
    simp [We.ok, wellB, placeB, hX, hY, hR]
  rw [hA, h1]
  simp [placeB, momB, hx, hy, ht]
theorem site_row {w : World} {b : Nat} {X Y px py : Int} {R : Nat} {t : TypeId} (h : Blk w b #[.int .i8 X, .int .i8 Y, .float .f32 R, .int .i8 px, .int .i8 py] t) : RowAt w b 0 #[.int .i8 X, .int .i8 Y, .float .f32 R] :=
  fun i v hv => by
    rw [Nat.zero_add]
    match i, hv with
    | 0, hv => exact h.at hv
    | 1, hv => exact h.at hv
    | 2, hv => exact h.at hv
    | i + 3, hv => simp at hv
/-- What is known at the starts of the rounds. -/
def RoundRel (low most : Int) (w : World) (v : Value) (wr : World) : Prop := ∃ k : Int, low ≤ k ∧ k ≤ most + 1 ∧ v = .int .i64 k ∧ Below w.heap.size w wr

set_option maxHeartbeats 400000 in
theorem f6big_any (v : Value) (n : Nat) (w : World) (_ : n < 9223372036854775808) (hv : BytesAt w v n) : Calls Try.prog 21 #[v] w fun e w' => e = .returned (.bool (decide ((4096 : Int) < n))) ∧ w = w' := by
  obtain ⟨a, cap, rfl, _⟩ := hv
  go_enter Try.func21, Try.ntmps21
  go_wp2_with fail
  go_ret
  exact ⟨rfl, rfl⟩

set_option maxRecDepth 100000 in
set_option maxHeartbeats 6400000 in
theorem law_Reach (v1 v2 : Value) (n1 n2 : Nat) (w : World) (h1 : n1 < 9223372036854775808) (h2 : n2 < 9223372036854775808) (hv1 : BytesAt w v1 n1) (hv2 : BytesAt w v2 n2) :
    Calls Try.prog 8 #[v1, v2] w (RetB true w) := by
  have hgt' := order_gt
  have heq' := order_eq
  have HV1 := Lib.hid hv1
  have HV2 := Lib.hid hv2
  clear hv1 hv2
  by_cases hn1 : (4096 : Int) < n1
  · have N1 := Lib.hid hn1
    clear hn1
    go_enter Try.func8, Try.ntmps8
    go_wp2_with (go_at_call 21; refine (f6big_any v1 n1 _ h1 HV1.out).mono ?_; rw [decide_eq_true N1.out]; rintro e w' ⟨rfl, rfl⟩)
    go_ret
    exact ⟨rfl, Below.refl _ _⟩
  have N1 := Lib.hid hn1
  have N1' : Hid (n1 ≤ 4096) := by show _ ≤ _; omega
  clear hn1
  by_cases hn2 : (4096 : Int) < n2
  · have N2 := Lib.hid hn2
    clear hn2
    go_enter Try.func8, Try.ntmps8
    go_wp2_with (go_at_call 21; first | (refine (f6big_any v1 n1 _ h1 HV1.out).mono ?_; rw [decide_eq_false N1.out]; rintro e w' ⟨rfl, rfl⟩) | (refine (f6big_any v2 n2 _ h2 HV2.out).mono ?_; rw [decide_eq_true N2.out]; rintro e w' ⟨rfl, rfl⟩))
    go_ret
    exact ⟨rfl, Below.refl _ _⟩
  have N2 := Lib.hid hn2
  have N2' : Hid (n2 ≤ 4096) := by show _ ≤ _; omega
  clear hn2
  go_enter Try.func8, Try.ntmps8
  go_wp2_with fail
  refine (f6big_any v1 n1 _ h1 HV1.out).mono ?_
  rw [decide_eq_false (show ¬ (4096 : Int) < n1 by have := N1'.out; omega)]
  rintro e w' ⟨rfl, rfl⟩
  go_wp2_with fail
  refine (f6big_any v2 n2 _ h2 HV2.out).mono ?_
  rw [decide_eq_false (show ¬ (4096 : Int) < n2 by have := N2'.out; omega)]
  rintro e w' ⟨rfl, rfl⟩
  go_wp2_with fail
  refine (P6Aquifer_any v1 n1 w N1'.out HV1.out).mono ?_
  rintro e w1 ⟨T, S, rfl, hok, hb1⟩
  have HOK := Lib.hid hok
  have HB1 := Lib.hid hb1
  clear hok hb1
  go_wp2_with (with_reducible refine wpList_new newA ?_)
  intro Ab w2 hA1 hA2 hA3 hA4
  have HB2 := Lib.hid (below_next HB1.out hA4)
  have hwA : w.heap.size ≤ Ab := by have := HB1.out.size; omega
  clear hA4
  go_wp2_with ((with_reducible refine wpList_gateS ?_); refine wpList_put (cells := #[.float .f32 T, .float .f32 S]) hA3 sizeAq rfl (by simp [Value.oneCell']) rfl rfl ?_)
  intro w3 s3 b3 k3
  have HA3 := Lib.hid b3
  have HB3 := Lib.hid (below_grown HB2.out k3 HB2.out.size hwA)
  clear hA3 k3 s3 b3
  go_wp2_with fail
  refine (P6Site_any v2 n2 w3 N2'.out (HV2.out.far HB3.out)).mono ?_
  rintro e w4 ⟨X, Y, R, px, py, rfl, hX, hY, hpx, hpy, hR, hb4⟩
  have HRP := Lib.hid hR
  have HA4 := Lib.hid (HA3.out.later hb4)
  have HB4 := Lib.hid (below_next HB3.out hb4)
  clear hb4 hR
  go_wp2_with (with_reducible refine wpList_new newSt ?_)
  intro Sb w5 hS1 hS2 hS3 hS4
  have HA5 := Lib.hid (HA4.out.later hS4)
  have HB5 := Lib.hid (below_next HB4.out hS4)
  have hAS : Ab < Sb := by have := HA4.out.lt; omega
  clear hS4
  go_wp2_with ((with_reducible refine wpList_gateS ?_); refine wpList_put (cells := #[.int .i8 X, .int .i8 Y, .float .f32 R, .int .i8 px, .int .i8 py]) hS3 sizeSt rfl (by simp [Value.oneCell']) rfl rfl ?_)
  intro w6 s6 b6 k6
  have HA6 := Lib.hid (HA5.out.grown k6 (by omega))
  have HS6 := Lib.hid b6
  have HB6 := Lib.hid (below_grown HB5.out k6 HB5.out.size (by omega))
  clear hS3 k6 s6 b6
  go_wp2_with fail
  refine (P6Number_any v1 n1 w6 N1'.out (HV1.out.far HB6.out)).mono ?_
  rintro e w7 ⟨r0, z0, rfl, hz0, hr0, hb7⟩
  have HA7 := Lib.hid (HA6.out.later hb7)
  have HS7 := Lib.hid (HS6.out.later hb7)
  have HB7 := Lib.hid (below_next HB6.out hb7)
  have HR0 := Lib.hid hr0
  clear hb7 hr0
  have c3 : w7.cell? ⟨Sb, 3, none⟩ = some (.int .i8 px) := HS7.out.at rfl
  have c4 : w7.cell? ⟨Sb, 4, none⟩ = some (.int .i8 py) := HS7.out.at rfl
  go_wp2_with (first | ((with_reducible refine wpList_gate ?_); refine wpList_arith _ _ rfl rfl rfl ?_; intro lev n8 hlev) | ((with_reducible refine wpList_get (HA7.out.drewN _) Try.underlying30 rfl (by kernel_rfl) ?_ ?_); rfl) | ((with_reducible refine wpList_getAt (T := 32) (b := Sb) (o := 0) (cs := #[.int .i8 X, .int .i8 Y, .float .f32 R]) Try.underlying32 ?_ ?_ ?_ ?_ ?_); rfl; exact sizeWell; exact site_row (HS7.out.drewN _); rfl))
  have HLV : Hid (plain (fb lev) = true) := by
    show _ = _
    rw [hlev.out, fop, HR0.out.out]
    exact level_plain hz0
  clear hlev
  obtain ⟨w8, hw8⟩ : ∃ w8, w7.drewN n8 = w8 := ⟨_, rfl⟩
  have HA8 : Hid (Blk w8 Ab #[.float .f32 T, .float .f32 S] 30) := by rw [← hw8]; exact HA7.out.drewN _
  have HS8 : Hid (Blk w8 Sb #[.int .i8 X, .int .i8 Y, .float .f32 R, .int .i8 px, .int .i8 py] 61) := by rw [← hw8]; exact HS7.out.drewN _
  have HB8 : Hid (Below w.heap.size w w8) := by rw [← hw8]; exact below_drawn HB7.out _
  rw [hw8]
  clear hw8 c3 c4
  have bX : (-100 : Int) ≤ X ∧ (X : Int) ≤ 100 := by omega
  have bY : (-100 : Int) ≤ Y ∧ (Y : Int) ≤ 100 := by omega
  have bx : (-100 : Int) ≤ px ∧ (px : Int) ≤ 100 := by omega
  have by' : (-100 : Int) ≤ py ∧ (py : Int) ≤ 100 := by omega
  have ASK : Hid (∀ t : Int, 1 ≤ t ∧ t ≤ 100000 → askW (okA (fb T) (fb S)) [⟨X, Y, R⟩] px py [t] = 0) := fun t ht => ask_one HOK.out bX bY HRP.out bx by' ht
  have ASKN : Hid (∀ x t : Int, -100 ≤ x ∧ x ≤ 100 → 1 ≤ t ∧ t ≤ 100000 → askW (okA (fb T) (fb S)) [⟨X, Y, R⟩] x Y [t] = 0) := fun x t hx ht => ask_one HOK.out bX bY HRP.out hx bY ht
  have ASK0 : Hid (∀ t : Int, 1 ≤ t ∧ t ≤ 100000 → askW (okA (fb T) (fb S)) [⟨X, Y, R⟩] 0 0 [t] = 0) := fun t ht => ask_one HOK.out bX bY HRP.out (by omega) (by omega) ht
  obtain ⟨dT, hdT⟩ : ∃ dT : Int → F, dT = fun t => downF (fb T) (fb S) (fb R) (px - X) (py - Y) t := ⟨_, rfl⟩
  obtain ⟨tr, htr⟩ : ∃ tr, untilK dT (fb lev) 40 1 = tr := ⟨_, rfl⟩
  have HTR : Hid (timeR T S R X Y px py lev 40 = tr) := by
    show _ = _
    unfold timeR
    rw [HLV.out, ASK.out 40 (by omega), ← htr, hdT]; rfl
  obtain ⟨t1, c1⟩ := tr
  have HSP := Lib.hid (until_spec 40 1 t1 c1 htr)
  have HDT := Lib.hid hdT
  clear htr hdT
  refine (TimeUntil_any T S R X Y px py lev 40 w8 (by omega) (by omega)).mono ?_
  rw [HTR.out]
  rintro e w9 ⟨rfl, hb9⟩
  have HA9 := Lib.hid (HA8.out.later hb9)
  have HS9 := Lib.hid (HS8.out.later hb9)
  have HB9 := Lib.hid (below_next HB8.out hb9)
  clear hb9
  have c3 : w9.cell? ⟨Sb, 3, none⟩ = some (.int .i8 px) := HS9.out.at rfl
  have c4 : w9.cell? ⟨Sb, 4, none⟩ = some (.int .i8 py) := HS9.out.at rfl
  go_wp2_with (first | ((with_reducible refine wpList_get HA9.out Try.underlying30 rfl (by kernel_rfl) ?_ ?_); rfl) | ((with_reducible refine wpList_getAt (T := 32) (b := Sb) (o := 0) (cs := #[.int .i8 X, .int .i8 Y, .float .f32 R]) Try.underlying32 ?_ ?_ ?_ ?_ ?_); rfl; exact sizeWell; exact site_row HS9.out; rfl))
  refine (specTimeUntil_any T S R X Y px py lev 40 w9 (by omega) (by omega)).mono ?_
  rw [HTR.out]
  rintro e w10 ⟨rfl, hb10⟩
  have HA10 := Lib.hid (HA9.out.later hb10)
  have HS10 := Lib.hid (HS9.out.later hb10)
  have HB10 := Lib.hid (below_next HB9.out hb10)
  clear hb10 c3 c4
  obtain ⟨en, hen⟩ : ∃ en : Int, en = (if c1 = 0 then t1 else 40) := ⟨_, rfl⟩
  have HEN : Hid (1 ≤ en ∧ en ≤ 40 ∧ ∀ k : Int, 1 ≤ k → k ≤ en → fge (dT k) (fb lev) = (decide (c1 = 0) && decide (k = t1))) := by
    rcases HSP.out with ⟨a1, a2, a3, a4, a5⟩ | ⟨a1, a2, a3⟩
    · subst a1
      rw [if_pos rfl] at hen
      subst hen
      refine ⟨a2, by omega, fun k k1 k2 => ?_⟩
      by_cases e : k = en
      · subst e; rw [a4]; simp
      · rw [a5 k k1 (by omega)]; simp [e]
    · subst a1
      rw [if_neg (by decide)] at hen
      subst hen
      exact ⟨by omega, by omega, fun k k1 k2 => by rw [a3 k k1 (by omega)]; simp⟩
  have HC1 : Hid (c1 = 0 ∨ c1 = 6) := by rcases HSP.out with h | h; exact .inl h.1; exact .inr h.1
  obtain ⟨en1, en2, _⟩ := HEN.out
  have FGE := Lib.hid HEN.out.2.2
  rcases HC1.out with rfl | rfl
  · rw [if_pos rfl] at hen
    subst hen
    go_wp2_with fail
    go_loopw [13] (fun v13 wr => RoundRel 1 en w10 v13 wr) (fun v13 _ => 1 + en.toNat - (intOf v13).toNat)
    case atStart => exact ⟨1, by omega, by omega, rfl, Below.refl _ _⟩
    case round =>
      obtain ⟨k, k1, k2, rfl, hB⟩ := hrel
      have HBR := Lib.hid (below_next HB10.out hB)
      have HAR := Lib.hid (HA10.out.later hB)
      have HSR := Lib.hid (HS10.out.later hB)
      have HBL := Lib.hid hB
      clear hB
      by_cases hlt : k ≤ en
      · have HG := Lib.hid (FGE.out k k1 hlt)
        have c3 : wr.cell? ⟨Sb, 3, none⟩ = some (.int .i8 px) := HSR.out.at rfl
        have c4 : wr.cell? ⟨Sb, 4, none⟩ = some (.int .i8 py) := HSR.out.at rfl
        go_wp2_with (first | ((with_reducible refine wpList_get HAR.out Try.underlying30 rfl (by kernel_rfl) ?_ ?_); rfl) | ((with_reducible refine wpList_getAt (T := 32) (b := Sb) (o := 0) (cs := #[.int .i8 X, .int .i8 Y, .float .f32 R]) Try.underlying32 ?_ ?_ ?_ ?_ ?_); rfl; exact sizeWell; exact site_row HSR.out; rfl))
        refine (DrawdownAt_ok T S R X Y px py k wr (by omega) (by omega) (ASK.out k (by omega))).mono ?_
        rintro e w20 ⟨q, rfl, hq, hb20⟩
        have HGE : Hid ((fgt (fb q) (fb lev) || feq (fb q) (fb lev)) = fge (dT k) (fb lev)) := by
          show _ = fge _ _
          rw [hq.out, HDT.out]; rfl
        have HB20 := Lib.hid (below_next HBL.out hb20)
        clear hb20 hq c3 c4
        by_cases hkt : k = en
        · have hge : (fgt (fb q) (fb lev) || feq (fb q) (fb lev)) = true := by rw [HGE.out, HG.out]; simp [hkt]
          subst hkt
          go_wp2_with fail
          go_roundw
          case rel => exact ⟨k + 1, by omega, by omega, by go_num, HB20.out⟩
          case measure => simp [intOf]; omega
        · have hge : (fgt (fb q) (fb lev) || feq (fb q) (fb lev)) = false := by rw [HGE.out, HG.out]; simp [hkt]
          go_wp2_with fail
          go_roundw
          case rel => exact ⟨k + 1, by omega, by omega, by go_num, HB20.out⟩
          case measure => simp [intOf]; omega
      · go_wp2_with fail
        refine (P6Pick_any v2 n2 40 wr N2'.out (by omega) (by omega) (HV2.out.far HBR.out)).mono ?_
        rintro e w21 ⟨zm, rfl, hzm, hb21⟩
        have HA21 := Lib.hid (HAR.out.later hb21)
        have HS21 := Lib.hid (HSR.out.later hb21)
        have HB21 := Lib.hid (below_next HBR.out hb21)
        have zm1 : (zm : Int) < 40 := by omega
        clear hb21
        obtain ⟨dN, hdN⟩ : ∃ dN : Int → F, dN = fun x => downF (fb T) (fb S) (fb R) (x - X) (Y - Y) (1 + zm) := ⟨_, rfl⟩
        have HFS := Lib.hid (far_spec (d := dN) (lev := fb lev) 201 X (by omega) (by omega))
        obtain ⟨N, hN⟩ : ∃ N, farK dN (fb lev) 201 X = N := ⟨_, rfl⟩
        rw [hN] at HFS
        have HRD : Hid (radR T S R X Y (1 + zm) lev = radV (N - X)) := by
          show _ = _
          unfold radR radN
          rw [HLV.out, ASK0.out (1 + zm) (by omega), ← hN, hdN]; rfl
        have HDN := Lib.hid hdN
        clear hN hdN
        obtain ⟨f1, f2, _, _⟩ := HFS.out
        go_wp2_with (first | ((with_reducible refine wpList_get HA21.out Try.underlying30 rfl (by kernel_rfl) ?_ ?_); rfl) | ((with_reducible refine wpList_getAt (T := 32) (b := Sb) (o := 0) (cs := #[.int .i8 X, .int .i8 Y, .float .f32 R]) Try.underlying32 ?_ ?_ ?_ ?_ ?_); rfl; exact sizeWell; exact site_row HS21.out; rfl))
        refine (RadiusOf_any T S R X Y (1 + zm) lev w21 (by omega) (by omega)).mono ?_
        rw [HRD.out]
        by_cases hz : N - X = 0
        · rw [radV_zero hz]
          rintro e w22 ⟨rfl, hb22⟩
          have HA22 := Lib.hid (HA21.out.later hb22)
          have HS22 := Lib.hid (HS21.out.later hb22)
          have HB22 := Lib.hid (below_next HB21.out hb22)
          clear hb22
          go_wp2_with (first | ((with_reducible refine wpList_get HA22.out Try.underlying30 rfl (by kernel_rfl) ?_ ?_); rfl) | ((with_reducible refine wpList_getAt (T := 32) (b := Sb) (o := 0) (cs := #[.int .i8 X, .int .i8 Y, .float .f32 R]) Try.underlying32 ?_ ?_ ?_ ?_ ?_); rfl; exact sizeWell; exact site_row HS22.out; rfl))
          refine (specRadiusOf_any T S R X Y (1 + zm) lev w22 (by omega) (by omega)).mono ?_
          rw [HRD.out, radV_zero hz]
          rintro e w23 ⟨rfl, hb23⟩
          have HA23 := Lib.hid (HA22.out.later hb23)
          have HS23 := Lib.hid (HS22.out.later hb23)
          have HB23 := Lib.hid (below_next HB22.out hb23)
          clear hb23
          have d0 : w23.cell? ⟨Sb, 0, none⟩ = some (.int .i8 X) := HS23.out.at rfl
          have d1 : w23.cell? ⟨Sb, 1, none⟩ = some (.int .i8 Y) := HS23.out.at rfl
          go_wp2_with (first | ((with_reducible refine wpList_get HA23.out Try.underlying30 rfl (by kernel_rfl) ?_ ?_); rfl) | ((with_reducible refine wpList_getAt (T := 32) (b := Sb) (o := 0) (cs := #[.int .i8 X, .int .i8 Y, .float .f32 R]) Try.underlying32 ?_ ?_ ?_ ?_ ?_); rfl; exact sizeWell; exact site_row HS23.out; rfl))
          refine (DrawdownAt_ok T S R X Y X Y (1 + zm) w23 (by omega) (by omega) (ASKN.out X (1 + zm) bX (by omega))).mono ?_
          rintro e w24 ⟨q, rfl, hq, hb24⟩
          have HGE : Hid ((fgt (fb q) (fb lev) || feq (fb q) (fb lev)) = false) := by
            show _ = _
            have h4 := HFS.out.2.2.2 (by omega)
            have e : N = X := by omega
            rw [e, HDN.out] at h4
            rw [← h4]
            show _ = fge _ _
            rw [hq.out]; rfl
          have HB24 := Lib.hid (below_next HB23.out hb24)
          have hge := HGE.out
          clear hb24 hq d0 d1
          go_wp2_with fail
          go_ret
          exact ⟨rfl, HB24.out⟩
        · rw [radV_some hz]
          rintro e w22 ⟨rfl, hb22⟩
          have HA22 := Lib.hid (HA21.out.later hb22)
          have HS22 := Lib.hid (HS21.out.later hb22)
          have HB22 := Lib.hid (below_next HB21.out hb22)
          clear hb22
          go_wp2_with (first | ((with_reducible refine wpList_get HA22.out Try.underlying30 rfl (by kernel_rfl) ?_ ?_); rfl) | ((with_reducible refine wpList_getAt (T := 32) (b := Sb) (o := 0) (cs := #[.int .i8 X, .int .i8 Y, .float .f32 R]) Try.underlying32 ?_ ?_ ?_ ?_ ?_); rfl; exact sizeWell; exact site_row HS22.out; rfl))
          refine (specRadiusOf_any T S R X Y (1 + zm) lev w22 (by omega) (by omega)).mono ?_
          rw [HRD.out, radV_some hz]
          rintro e w23 ⟨rfl, hb23⟩
          have HA23 := Lib.hid (HA22.out.later hb23)
          have HS23 := Lib.hid (HS22.out.later hb23)
          have HB23 := Lib.hid (below_next HB22.out hb23)
          clear hb23
          go_wp2_with fail
          go_loopw [23] (fun v23 wr => RoundRel 0 (N - X) w23 v23 wr) (fun v23 _ => 1 + (N - X).toNat - (intOf v23).toNat)
          case atStart => exact ⟨0, by omega, by omega, rfl, Below.refl _ _⟩
          case round =>
            obtain ⟨k, k1, k2, rfl, hB⟩ := hrel
            have HBR := Lib.hid (below_next HB23.out hB)
            have HAR := Lib.hid (HA23.out.later hB)
            have HSR := Lib.hid (HS23.out.later hB)
            have HBL := Lib.hid hB
            have d0 : wr.cell? ⟨Sb, 0, none⟩ = some (.int .i8 X) := HSR.out.at rfl
            have d1 : wr.cell? ⟨Sb, 1, none⟩ = some (.int .i8 Y) := HSR.out.at rfl
            clear hB
            by_cases hlt : k ≤ N - X - 1 + 1
            · by_cases hpl : X + k ≤ 100
              · go_wp2_with (first | ((with_reducible refine wpList_get HAR.out Try.underlying30 rfl (by kernel_rfl) ?_ ?_); rfl) | ((with_reducible refine wpList_getAt (T := 32) (b := Sb) (o := 0) (cs := #[.int .i8 X, .int .i8 Y, .float .f32 R]) Try.underlying32 ?_ ?_ ?_ ?_ ?_); rfl; exact sizeWell; exact site_row HSR.out; rfl))
                refine (DrawdownAt_ok T S R X Y (X + k) Y (1 + zm) wr (by omega) (by omega) (ASKN.out (X + k) (1 + zm) (by omega) (by omega))).mono ?_
                rintro e w24 ⟨q, rfl, hq, hb24⟩
                have HGE : Hid ((fgt (fb q) (fb lev) || feq (fb q) (fb lev)) = fge (dN (X + k)) (fb lev)) := by
                  show _ = fge _ _
                  rw [hq.out, HDN.out]; rfl
                have HB24 := Lib.hid (below_next HBL.out hb24)
                clear hb24 hq d0 d1
                by_cases hin : k ≤ N - X - 1
                · have hge : (fgt (fb q) (fb lev) || feq (fb q) (fb lev)) = true := by rw [HGE.out]; exact HFS.out.2.2.1 _ (by omega) (by omega)
                  go_wp2_with fail
                  go_roundw
                  case rel => exact ⟨k + 1, by omega, by omega, by go_num, HB24.out⟩
                  case measure => simp [intOf]; omega
                · have hge : (fgt (fb q) (fb lev) || feq (fb q) (fb lev)) = false := by
                    rw [HGE.out]
                    have e : X + k = N := by omega
                    rw [e]; exact HFS.out.2.2.2 (by omega)
                  go_wp2_with fail
                  go_roundw
                  case rel => exact ⟨k + 1, by omega, by omega, by go_num, HB24.out⟩
                  case measure => simp [intOf]; omega
              · go_wp2_with fail
                go_ret
                exact ⟨rfl, HBR.out⟩
            · go_wp2_with fail
              go_ret
              exact ⟨rfl, HBR.out⟩
  · rw [if_neg (by decide)] at hen
    subst hen
    go_wp2_with fail
    go_loopw [13] (fun v13 wr => RoundRel 1 40 w10 v13 wr) (fun v13 _ => 1 + (40 : Int).toNat - (intOf v13).toNat)
    case atStart => exact ⟨1, by omega, by omega, rfl, Below.refl _ _⟩
    case round =>
      obtain ⟨k, k1, k2, rfl, hB⟩ := hrel
      have HBR := Lib.hid (below_next HB10.out hB)
      have HAR := Lib.hid (HA10.out.later hB)
      have HSR := Lib.hid (HS10.out.later hB)
      have HBL := Lib.hid hB
      clear hB
      by_cases hlt : k ≤ 40
      · have HG := Lib.hid (FGE.out k k1 hlt)
        have c3 : wr.cell? ⟨Sb, 3, none⟩ = some (.int .i8 px) := HSR.out.at rfl
        have c4 : wr.cell? ⟨Sb, 4, none⟩ = some (.int .i8 py) := HSR.out.at rfl
        go_wp2_with (first | ((with_reducible refine wpList_get HAR.out Try.underlying30 rfl (by kernel_rfl) ?_ ?_); rfl) | ((with_reducible refine wpList_getAt (T := 32) (b := Sb) (o := 0) (cs := #[.int .i8 X, .int .i8 Y, .float .f32 R]) Try.underlying32 ?_ ?_ ?_ ?_ ?_); rfl; exact sizeWell; exact site_row HSR.out; rfl))
        refine (DrawdownAt_ok T S R X Y px py k wr (by omega) (by omega) (ASK.out k (by omega))).mono ?_
        rintro e w20 ⟨q, rfl, hq, hb20⟩
        have HGE : Hid ((fgt (fb q) (fb lev) || feq (fb q) (fb lev)) = fge (dT k) (fb lev)) := by
          show _ = fge _ _
          rw [hq.out, HDT.out]; rfl
        have HB20 := Lib.hid (below_next HBL.out hb20)
        clear hb20 hq c3 c4
        have hge : (fgt (fb q) (fb lev) || feq (fb q) (fb lev)) = false := by rw [HGE.out, HG.out]; simp
        go_wp2_with fail
        go_roundw
        case rel => exact ⟨k + 1, by omega, by omega, by go_num, HB20.out⟩
        case measure => simp [intOf]; omega
      · go_wp2_with fail
        refine (P6Pick_any v2 n2 40 wr N2'.out (by omega) (by omega) (HV2.out.far HBR.out)).mono ?_
        rintro e w21 ⟨zm, rfl, hzm, hb21⟩
        have HA21 := Lib.hid (HAR.out.later hb21)
        have HS21 := Lib.hid (HSR.out.later hb21)
        have HB21 := Lib.hid (below_next HBR.out hb21)
        have zm1 : (zm : Int) < 40 := by omega
        clear hb21
        obtain ⟨dN, hdN⟩ : ∃ dN : Int → F, dN = fun x => downF (fb T) (fb S) (fb R) (x - X) (Y - Y) (1 + zm) := ⟨_, rfl⟩
        have HFS := Lib.hid (far_spec (d := dN) (lev := fb lev) 201 X (by omega) (by omega))
        obtain ⟨N, hN⟩ : ∃ N, farK dN (fb lev) 201 X = N := ⟨_, rfl⟩
        rw [hN] at HFS
        have HRD : Hid (radR T S R X Y (1 + zm) lev = radV (N - X)) := by
          show _ = _
          unfold radR radN
          rw [HLV.out, ASK0.out (1 + zm) (by omega), ← hN, hdN]; rfl
        have HDN := Lib.hid hdN
        clear hN hdN
        obtain ⟨f1, f2, _, _⟩ := HFS.out
        go_wp2_with (first | ((with_reducible refine wpList_get HA21.out Try.underlying30 rfl (by kernel_rfl) ?_ ?_); rfl) | ((with_reducible refine wpList_getAt (T := 32) (b := Sb) (o := 0) (cs := #[.int .i8 X, .int .i8 Y, .float .f32 R]) Try.underlying32 ?_ ?_ ?_ ?_ ?_); rfl; exact sizeWell; exact site_row HS21.out; rfl))
        refine (RadiusOf_any T S R X Y (1 + zm) lev w21 (by omega) (by omega)).mono ?_
        rw [HRD.out]
        by_cases hz : N - X = 0
        · rw [radV_zero hz]
          rintro e w22 ⟨rfl, hb22⟩
          have HA22 := Lib.hid (HA21.out.later hb22)
          have HS22 := Lib.hid (HS21.out.later hb22)
          have HB22 := Lib.hid (below_next HB21.out hb22)
          clear hb22
          go_wp2_with (first | ((with_reducible refine wpList_get HA22.out Try.underlying30 rfl (by kernel_rfl) ?_ ?_); rfl) | ((with_reducible refine wpList_getAt (T := 32) (b := Sb) (o := 0) (cs := #[.int .i8 X, .int .i8 Y, .float .f32 R]) Try.underlying32 ?_ ?_ ?_ ?_ ?_); rfl; exact sizeWell; exact site_row HS22.out; rfl))
          refine (specRadiusOf_any T S R X Y (1 + zm) lev w22 (by omega) (by omega)).mono ?_
          rw [HRD.out, radV_zero hz]
          rintro e w23 ⟨rfl, hb23⟩
          have HA23 := Lib.hid (HA22.out.later hb23)
          have HS23 := Lib.hid (HS22.out.later hb23)
          have HB23 := Lib.hid (below_next HB22.out hb23)
          clear hb23
          have d0 : w23.cell? ⟨Sb, 0, none⟩ = some (.int .i8 X) := HS23.out.at rfl
          have d1 : w23.cell? ⟨Sb, 1, none⟩ = some (.int .i8 Y) := HS23.out.at rfl
          go_wp2_with (first | ((with_reducible refine wpList_get HA23.out Try.underlying30 rfl (by kernel_rfl) ?_ ?_); rfl) | ((with_reducible refine wpList_getAt (T := 32) (b := Sb) (o := 0) (cs := #[.int .i8 X, .int .i8 Y, .float .f32 R]) Try.underlying32 ?_ ?_ ?_ ?_ ?_); rfl; exact sizeWell; exact site_row HS23.out; rfl))
          refine (DrawdownAt_ok T S R X Y X Y (1 + zm) w23 (by omega) (by omega) (ASKN.out X (1 + zm) bX (by omega))).mono ?_
          rintro e w24 ⟨q, rfl, hq, hb24⟩
          have HGE : Hid ((fgt (fb q) (fb lev) || feq (fb q) (fb lev)) = false) := by
            show _ = _
            have h4 := HFS.out.2.2.2 (by omega)
            have e : N = X := by omega
            rw [e, HDN.out] at h4
            rw [← h4]
            show _ = fge _ _
            rw [hq.out]; rfl
          have HB24 := Lib.hid (below_next HB23.out hb24)
          have hge := HGE.out
          clear hb24 hq d0 d1
          go_wp2_with fail
          go_ret
          exact ⟨rfl, HB24.out⟩
        · rw [radV_some hz]
          rintro e w22 ⟨rfl, hb22⟩
          have HA22 := Lib.hid (HA21.out.later hb22)
          have HS22 := Lib.hid (HS21.out.later hb22)
          have HB22 := Lib.hid (below_next HB21.out hb22)
          clear hb22
          go_wp2_with (first | ((with_reducible refine wpList_get HA22.out Try.underlying30 rfl (by kernel_rfl) ?_ ?_); rfl) | ((with_reducible refine wpList_getAt (T := 32) (b := Sb) (o := 0) (cs := #[.int .i8 X, .int .i8 Y, .float .f32 R]) Try.underlying32 ?_ ?_ ?_ ?_ ?_); rfl; exact sizeWell; exact site_row HS22.out; rfl))
          refine (specRadiusOf_any T S R X Y (1 + zm) lev w22 (by omega) (by omega)).mono ?_
          rw [HRD.out, radV_some hz]
          rintro e w23 ⟨rfl, hb23⟩
          have HA23 := Lib.hid (HA22.out.later hb23)
          have HS23 := Lib.hid (HS22.out.later hb23)
          have HB23 := Lib.hid (below_next HB22.out hb23)
          clear hb23
          go_wp2_with fail
          go_loopw [23] (fun v23 wr => RoundRel 0 (N - X) w23 v23 wr) (fun v23 _ => 1 + (N - X).toNat - (intOf v23).toNat)
          case atStart => exact ⟨0, by omega, by omega, rfl, Below.refl _ _⟩
          case round =>
            obtain ⟨k, k1, k2, rfl, hB⟩ := hrel
            have HBR := Lib.hid (below_next HB23.out hB)
            have HAR := Lib.hid (HA23.out.later hB)
            have HSR := Lib.hid (HS23.out.later hB)
            have HBL := Lib.hid hB
            have d0 : wr.cell? ⟨Sb, 0, none⟩ = some (.int .i8 X) := HSR.out.at rfl
            have d1 : wr.cell? ⟨Sb, 1, none⟩ = some (.int .i8 Y) := HSR.out.at rfl
            clear hB
            by_cases hlt : k ≤ N - X - 1 + 1
            · by_cases hpl : X + k ≤ 100
              · go_wp2_with (first | ((with_reducible refine wpList_get HAR.out Try.underlying30 rfl (by kernel_rfl) ?_ ?_); rfl) | ((with_reducible refine wpList_getAt (T := 32) (b := Sb) (o := 0) (cs := #[.int .i8 X, .int .i8 Y, .float .f32 R]) Try.underlying32 ?_ ?_ ?_ ?_ ?_); rfl; exact sizeWell; exact site_row HSR.out; rfl))
                refine (DrawdownAt_ok T S R X Y (X + k) Y (1 + zm) wr (by omega) (by omega) (ASKN.out (X + k) (1 + zm) (by omega) (by omega))).mono ?_
                rintro e w24 ⟨q, rfl, hq, hb24⟩
                have HGE : Hid ((fgt (fb q) (fb lev) || feq (fb q) (fb lev)) = fge (dN (X + k)) (fb lev)) := by
                  show _ = fge _ _
                  rw [hq.out, HDN.out]; rfl
                have HB24 := Lib.hid (below_next HBL.out hb24)
                clear hb24 hq d0 d1
                by_cases hin : k ≤ N - X - 1
                · have hge : (fgt (fb q) (fb lev) || feq (fb q) (fb lev)) = true := by rw [HGE.out]; exact HFS.out.2.2.1 _ (by omega) (by omega)
                  go_wp2_with fail
                  go_roundw
                  case rel => exact ⟨k + 1, by omega, by omega, by go_num, HB24.out⟩
                  case measure => simp [intOf]; omega
                · have hge : (fgt (fb q) (fb lev) || feq (fb q) (fb lev)) = false := by
                    rw [HGE.out]
                    have e : X + k = N := by omega
                    rw [e]; exact HFS.out.2.2.2 (by omega)
                  go_wp2_with fail
                  go_roundw
                  case rel => exact ⟨k + 1, by omega, by omega, by go_num, HB24.out⟩
                  case measure => simp [intOf]; omega
              · go_wp2_with fail
                go_ret
                exact ⟨rfl, HBR.out⟩
            · go_wp2_with fail
              go_ret
              exact ⟨rfl, HBR.out⟩
end Go.Proofs.Ytbhnnglpakdigaa
