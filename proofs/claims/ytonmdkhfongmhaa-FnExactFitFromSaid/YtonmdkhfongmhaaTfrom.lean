/- An aquifer that is fitted: both sides. -/
import Derived.Test.YtonmdkhfongmhaaTbet
import Derived.Test.YtonmdkhfongmhaaChain
namespace Go.Proofs.Ytonmdkhfongmhaa
open Go.RowKit

def fitStep (s : Si) (l : List Rd) (a : Aq) (m : Nat) : Option (Aq × Nat) := if (!(trL a).isEmpty && decide (lstB s l (trL a) < m)) = true then some (bstA s l (trL a), lstB s l (trL a)) else none
def bump (r : Aq × Nat × Nat) : Aq × Nat × Nat := (r.1, r.2.1, r.2.2 + 1)
def fitGo (s : Si) (l : List Rd) : Nat → Aq → Nat → Aq × Nat × Nat
  | 0, a, m => (a, m, 0)
  | n + 1, a, m => ((fitStep s l a m).map fun p => bump (fitGo s l n p.1 p.2)).getD (a, m, 0)
theorem go_zero (s : Si) (l : List Rd) (a : Aq) (m : Nat) : fitGo s l 0 a m = (a, m, 0) := by rw [fitGo]
theorem go_none {s : Si} {l : List Rd} {a : Aq} {m : Nat} (h : fitStep s l a m = none) (n : Nat) : fitGo s l n a m = (a, m, 0) := by
  cases n with
  | zero => exact go_zero s l a m
  | succ n => rw [fitGo, h, Option.map_none, Option.getD_none]
theorem go_some {s : Si} {l : List Rd} {a b : Aq} {m q : Nat} (h : fitStep s l a m = some (b, q)) (n : Nat) : fitGo s l (n + 1) a m = bump (fitGo s l n b q) := by
  rw [fitGo, h, Option.map_some, Option.getD_some]
structure FrR where
  a : Aq
  x : F
  n : Int
  z : Int
def frmR (a : Aq) (s : Si) (l : List Rd) (R : Int) : FrR :=
  if askF a.ok s l = 0 then (if 0 ≤ R ∧ R ≤ 60 then ⟨(fitGo s l R.toNat a (misB s l a)).1, some (fitGo s l R.toNat a (misB s l a)).2.1, (fitGo s l R.toNat a (misB s l a)).2.2, 0⟩ else ⟨⟨0, 0⟩, some 0, 0, 2⟩) else ⟨⟨0, 0⟩, some 0, 0, 1⟩
def RetFr (t : FrR) (w : World) (e : Ending) (w' : World) : Prop := ∃ q, e = .returned (.tuple #[.agg #[.float .f32 t.a.T, .float .f32 t.a.S], .float .f32 q, .int .i64 t.n, .int .i64 t.z]) ∧ Is q t.x ∧ Below w.heap.size w w'
theorem ret_cell4 {fn : Func} {a : Act} {w : World} {R : Ending → World → Prop} {p u v x : Tmp} {B : Nat} {cs : Array Value} {T : TypeId} (h : fn.results = #[.cell p T, .tmp u, .tmp v, .tmp x]) (hp : a.tmps.getD p undef = .pointer (some ⟨B, 0, none⟩)) (hl : (loadVar T ⟨B, 0, none⟩).run Try.prog w = .ok (.agg cs) w) (hd : a.defers = [])
    (hR : R (.returned (.tuple #[.agg cs, a.tmps.getD u undef, a.tmps.getD v undef, a.tmps.getD x undef])) w) : bodyPost Try.prog fn R .ret a w := by
  refine bodyPost_ret (v := .tuple #[.agg cs, a.tmps.getD u undef, a.tmps.getD v undef, a.tmps.getD x undef]) ?_ hd hR
  simp only [results, h]
  simp only [Array.getD_eq_getD_getElem?] at hp
  simp [hp, asAddr, hl]
theorem mis_every {a : Aq} {s : Si} {l : List Rd} (h : askF a.ok s l = 0) (hr : ∀ r ∈ l, r.Rng) : ∀ e : Aq, e.ok = true → MisOk e s l := by
  obtain ⟨_, h2, h3⟩ := ask_parts h
  intro e he
  refine mis_ok ?_ hr
  unfold askF
  rw [he, h2, h3]; rfl
theorem lst_mem {s : Si} {l : List Rd} {L : List Aq} : lstB s l L = leastB (L.map (misB s l)) := rfl

def FrRel (a0 : Aq) (s : Si) (l : List Rd) (R B : Nat) (wm : World) (v14 v15 : Value) (wr : World) : Prop :=
  ∃ (k m : Nat) (a : Aq), k ≤ R ∧ v15 = .int .i64 k ∧ v14 = .float .f32 m ∧ Blk wr B #[.float .f32 a.T, .float .f32 a.S] 42 ∧ a.ok = true ∧ a.Rng ∧ m < 2139095040 ∧
    fitGo s l R a0 (misB s l a0) = ((fitGo s l (R - k) a m).1, (fitGo s l (R - k) a m).2.1, (fitGo s l (R - k) a m).2.2 + k) ∧ wm.grownBy wr (some B)
theorem go_more {s : Si} {l : List Rd} {R k m : Nat} {a b : Aq} {q : Nat} (hk : k < R) (h : fitStep s l a m = some (b, q)) :
    ((fitGo s l (R - k) a m).1, (fitGo s l (R - k) a m).2.1, (fitGo s l (R - k) a m).2.2 + k) = ((fitGo s l (R - (k + 1)) b q).1, (fitGo s l (R - (k + 1)) b q).2.1, (fitGo s l (R - (k + 1)) b q).2.2 + (k + 1)) := by
  obtain ⟨n, hn⟩ : ∃ n, R - k = n + 1 := ⟨R - k - 1, by omega⟩
  rw [hn, show R - (k + 1) = n by omega]
  rw [go_some h n]
  unfold bump
  simp only [Nat.add_assoc, Nat.add_comm 1 k]

set_option maxRecDepth 100000 in
set_option maxHeartbeats 6400000 in
theorem specFitFrom_any (a : Aq) (s : Si) (hs : s.Rng) (ha : a.Rng) (v : Value) (l : List Rd) (R : Int) (w : World) (hlen : l.length ≤ 1048576) (hv : RAt w v l) :
    Calls Try.prog 31 #[.agg #[.float .f32 a.T, .float .f32 a.S], .agg s.cells, v, .int .i64 R] w (RetFr (frmR a s l R) w) := by
  have HS := Lib.hid hs
  have HV := Lib.hid hv
  have HAR := Lib.hid ha
  have hlt := order_lt
  have hzero : ∀ w : World, (Instr.build 42 #[]).run Try.prog w = .ok (.agg #[.float .f32 0, .float .f32 0]) w := fun w => by kernel_rfl
  clear hs hv ha
  go_enter Try.func31, Try.ntmps31
  go_wp2_with (with_reducible refine wpList_box rfl ?_)
  intro bA wA hA1 hA2 hA3 hA4
  go_wp2_with (with_reducible refine wpList_box rfl ?_)
  intro bS wS hS1 hS2 hS3 hS4
  go_wp2_with (with_reducible refine wpList_new newA ?_)
  intro R8 wR hR1 hR2 hR3 hR4
  have HA := Lib.hid ((hA3.later hS4).later hR4)
  have HSi := Lib.hid (hS3.later hR4)
  have HR8 := Lib.hid hR3
  have HB := Lib.hid (below_next (below_next hA4 hS4) hR4)
  clear hA3 hA4 hS3 hS4 hR3 hR4
  go_wp2_with (first | ((with_reducible refine wpList_get HA.out Try.underlying42 rfl (by kernel_rfl) ?_ ?_); rfl) | ((with_reducible refine wpList_get HSi.out Try.underlying46 rfl (by kernel_rfl) ?_ ?_); rfl))
  refine (l04Asked_any a s HS.out v l wR hlen (HV.out.far HB.out)).mono ?_
  obtain ⟨c, hc⟩ : ∃ c, askF a.ok s l = c := ⟨_, rfl⟩
  have HC := Lib.hid hc
  rw [hc]
  clear hc
  rintro e w2 ⟨rfl, hb2⟩
  have HA2 := Lib.hid (HA.out.later hb2)
  have HSi2 := Lib.hid (HSi.out.later hb2)
  have HR2 := Lib.hid (HR8.out.later hb2)
  have HB2 := Lib.hid (below_next HB.out hb2)
  clear hb2
  by_cases h0 : c = 0
  · subst h0
    by_cases hin : 0 ≤ R ∧ R ≤ 60
    · obtain ⟨n, rfl⟩ : ∃ n : Nat, R = n := ⟨R.toNat, by omega⟩
      have hn60 : n ≤ 60 := by omega
      have HRR : Hid (frmR a s l n = ⟨(fitGo s l n a (misB s l a)).1, some (fitGo s l n a (misB s l a)).2.1, (fitGo s l n a (misB s l a)).2.2, 0⟩) := by show (if _ then _ else _) = _; rw [if_pos HC.out, if_pos hin, Int.toNat_natCast]
      have HMI := Lib.hid (mis_every HC.out HV.out.rng)
      have hok : Hid (a.ok = true) := (ask_parts HC.out).1
      have HME := Lib.hid (HMI.out a hok.out)
      go_wp2_with (first | (go_at_call 70; refine (l00In_yes _ _ _ _ (by omega) (by omega)).mono ?_; rintro e w' ⟨rfl, rfl⟩) | ((with_reducible refine wpList_get HA2.out Try.underlying42 rfl (by kernel_rfl) ?_ ?_); rfl) | (with_reducible refine wpList_new newA ?_))
      intro B w3 hB1 hB2 hB3 hB4
      have hA4 := HA2.out.later hB4
      have hS4 := HSi2.out.later hB4
      have hR4 := HR2.out.later hB4
      have hX4 := below_next HB2.out hB4
      have hRl : R8 < w2.heap.size := HR2.out.lt
      clear hB4
      go_wp2_with ((with_reducible refine wpList_gateS ?_); refine wpList_put (cells := #[.float .f32 a.T, .float .f32 a.S]) hB3 sizeAq rfl (by simp [Value.oneCell']) rfl rfl ?_)
      intro w4 s4 b4 k4
      have HB4 := Lib.hid b4
      have hSl : bS < w2.heap.size := HSi2.out.lt
      have HS4 := Lib.hid (hS4.grown k4 (by omega))
      have HR4 := Lib.hid (hR4.grown k4 (by omega))
      have HX4 := Lib.hid (below_grown hX4 k4 hX4.size (by have := HB2.out.size; omega))
      clear hA4 hS4 hR4 hX4 b4 k4 s4 hB3
      go_wp2_with (first | ((with_reducible refine wpList_get HB4.out Try.underlying42 rfl (by kernel_rfl) ?_ ?_); rfl) | ((with_reducible refine wpList_get HS4.out Try.underlying46 rfl (by kernel_rfl) ?_ ?_); rfl))
      refine (l04Misfit_any a s v l w4 HME.out (HV.out.far HX4.out)).mono ?_
      rintro e w5 ⟨q, rfl, hq, hb5⟩
      obtain rfl := is_misB HME.out hq
      have HB5 := Lib.hid (HB4.out.later hb5)
      have HS5 := Lib.hid (HS4.out.later hb5)
      have HR5 := Lib.hid (HR4.out.later hb5)
      have HX5 := Lib.hid (below_next HX4.out hb5)
      have HM0 := Lib.hid (misB_eq HME.out).2
      have hBl : B < w5.heap.size := HB5.out.lt
      have hwB : w.heap.size ≤ B := by have := HB2.out.size; omega
      clear hb5 hq
      go_wp2_with fail
      go_loopw [14, 15] (fun v14 v15 wr => FrRel a s l n B w5 v14 v15 wr) (fun _ v15 _ => n - (intOf v15).toNat)
      case atStart => exact ⟨0, misB s l a, a, by omega, rfl, rfl, HB5.out, hok.out, HAR.out, HM0.out, by simp, grown_refl _ _⟩
      case round =>
        obtain ⟨k, m, x, hk, rfl, rfl, hBx, hxo, hxr, hm, hgo, hgr⟩ := hrel
        have HBx := Lib.hid hBx
        have HXO := Lib.hid hxo
        have HXR := Lib.hid hxr
        have HM := Lib.hid hm
        have HGO := Lib.hid hgo
        have HGR := Lib.hid hgr
        have HSr := Lib.hid (HS5.out.grown hgr (by omega))
        have HRr := Lib.hid (HR5.out.grown hgr (by omega))
        have HXr := Lib.hid (below_grown HX5.out hgr HX5.out.size hwB)
        clear hBx hxo hxr hm hgo hgr
        have hRB : R8 ≠ B := by omega
        by_cases hlt2 : k < n
        · have j1 : (k : Int) < (n : Int) := by omega
          go_wp2_with ((with_reducible refine wpList_get HBx.out Try.underlying42 rfl (by kernel_rfl) ?_ ?_); rfl)
          refine (l04Tries_any x wr HXO.out).mono ?_
          rintro e w6 ⟨u, rfl, hown, hb6⟩
          have HAT := Lib.hid (aat_owned hown (trL_rng HXO.out HXR.out))
          have HB6 := Lib.hid (HBx.out.later hb6)
          have HS6 := Lib.hid (HSr.out.later hb6)
          have HR6 := Lib.hid (HRr.out.later hb6)
          have HG6 := Lib.hid (grown_trans HGR.out (grown_below hb6))
          have HX6 := Lib.hid (below_next HXr.out hb6)
          have HMO : Hid (∀ e ∈ trL x, MisOk e s l) := fun e he => HMI.out e (trL_ok he)
          have hl4 := trL_len x
          obtain ⟨aL, cap, hue, hL⟩ := HAT.out
          subst hue
          have HL := Lib.hid hL
          clear hown hb6 hL
          by_cases hl0 : trL x = []
          · have HN : Hid (fitStep s l x m = none) := by show (if _ then _ else _) = _; rw [hl0]; rfl
            have hl : (trL x).length = 0 := by rw [hl0]; rfl
            have hz : (((trL x).length : Int) == 0) = true := by rw [hl]; rfl
            go_wp2_with (first | ((with_reducible refine wpList_get HB6.out Try.underlying42 rfl (by kernel_rfl) ?_ ?_); rfl) | ((with_reducible refine wpList_gateS ?_); refine wpList_put (cells := #[.float .f32 x.T, .float .f32 x.S]) HR6.out sizeAq rfl (by simp [Value.oneCell']) rfl rfl ?_))
            intro w9 s9 b9 k9
            have HGE : Hid (fitGo s l n a (misB s l a) = (x, m, k)) := by show _ = _; rw [HGO.out, go_none HN.out]; simp
            go_wp2_with fail
            refine ret_cell4 rfl rfl (run_loadVar_row w9 R8 _ _ _ _ _ b9 Try.underlying42 rfl (by kernel_rfl)) rfl ?_
            exact ⟨m, by rw [HRR.out, HGE.out]; rfl, by rw [HRR.out, HGE.out]; exact fb_gd HM.out, below_grown HX6.out k9 HX6.out.size (by have := HB.out.size; omega)⟩
          · have hz : (((trL x).length : Int) == 0) = false := by rw [beq_eq_false_iff_ne]; have := List.length_pos_iff.2 hl0; omega
            have HL0 := Lib.hid hl0
            go_wp2_with ((with_reducible refine wpList_get HS6.out Try.underlying46 rfl (by kernel_rfl) ?_ ?_); rfl)
            refine (l04Best_any (trL x) s _ v l w6 HL0.out (by omega) HMO.out HAT.out (HV.out.far HX6.out)).mono ?_
            rintro e w7 ⟨rfl, hb7⟩
            have HB7 := Lib.hid (HB6.out.later hb7)
            have HS7 := Lib.hid (HS6.out.later hb7)
            have HR7 := Lib.hid (HR6.out.later hb7)
            have HG7 := Lib.hid (grown_trans HG6.out (grown_below hb7))
            have HX7 := Lib.hid (below_next HX6.out hb7)
            have HD7 := Lib.hid hb7
            obtain ⟨g1, g2⟩ := lst_gd HMO.out
            have HLS := Lib.hid g2
            have HLT : Hid (flt (fb (leastB ((trL x).map (misB s l)))) (fb m) = decide (lstB s l (trL x) < m)) := by
              show flt (fb (lstB s l (trL x))) _ = _
              rw [g1, fb_gd HM.out]; exact flt_gd g2 HM.out
            obtain ⟨m1, m2⟩ := bst_mem (s := s) (l := l) HL0.out
            have hix : fstI (leastB ((trL x).map (misB s l))) ((trL x).map (misB s l)) < (trL x).length := (List.getElem?_eq_some_iff.1 m1).1
            obtain ⟨hbr, gq, hge, hq⟩ := HL.out _ _ m1
            subst hge
            have HBO := Lib.hid (trL_ok m2)
            have HBR := Lib.hid hbr
            obtain ⟨ix, hixe⟩ : ∃ ix, fstI (leastB ((trL x).map (misB s l))) ((trL x).map (misB s l)) = ix := ⟨_, rfl⟩
            have hq' : w7.rangeAt gq (ix * 2) [.float .f32 (bstA s l (trL x)).T, .float .f32 (bstA s l (trL x)).S] := by
              rw [← hixe]; exact range_below hq HD7.out
            have HQ := Lib.hid hq'
            rw [hixe] at hix ⊢
            have i1 : (ix : Int) < ((trL x).length : Int) := by omega
            have hne0 : (!(trL x).isEmpty) = true := by cases h : trL x with | nil => exact absurd h HL0.out | cons y r => rfl
            have HNE := Lib.hid hne0
            clear hb7 g1 g2 m1 m2 hbr hq hq' hixe hne0
            cases hT : decide (lstB s l (trL x) < m)
            · rw [hT] at HLT
              have f1 := HLT.out
              have HN : Hid (fitStep s l x m = none) := by show (if _ then _ else _) = _; rw [hT, Bool.and_false]; rfl
              have HGE : Hid (fitGo s l n a (misB s l a) = (x, m, k)) := by show _ = _; rw [HGO.out, go_none HN.out]; simp
              clear hT
              go_wp2_with (first | ((with_reducible refine wpList_get HB7.out Try.underlying42 rfl (by kernel_rfl) ?_ ?_); rfl) | ((with_reducible refine wpList_gateS ?_); refine wpList_put (cells := #[.float .f32 x.T, .float .f32 x.S]) HR7.out sizeAq rfl (by simp [Value.oneCell']) rfl rfl ?_))
              intro w9 s9 b9 k9
              go_wp2_with fail
              refine ret_cell4 rfl rfl (run_loadVar_row w9 R8 _ _ _ _ _ b9 Try.underlying42 rfl (by kernel_rfl)) rfl ?_
              exact ⟨m, by rw [HRR.out, HGE.out]; rfl, by rw [HRR.out, HGE.out]; exact fb_gd HM.out, below_grown HX7.out k9 HX7.out.size (by have := HB.out.size; omega)⟩
            · rw [hT] at HLT
              have f1 := HLT.out
              have HN : Hid (fitStep s l x m = some (bstA s l (trL x), lstB s l (trL x))) := by show (if _ then _ else _) = _; rw [hT, HNE.out]; rfl
              clear hT
              go_wp2_with (first | ((with_reducible refine wpList_gateL ?_); refine wpList_load_mid rfl _ _ rfl gq (ix * 2) rfl [.float .f32 (bstA s l (trL x)).T, .float .f32 (bstA s l (trL x)).S] _ HQ.out Try.underlying42 rfl sizeAq ?_) | ((with_reducible refine wpList_gateS ?_); refine wpList_put (cells := #[.float .f32 (bstA s l (trL x)).T, .float .f32 (bstA s l (trL x)).S]) HB7.out sizeAq rfl (by simp [Value.oneCell']) rfl rfl ?_))
              intro w8 s8 b8 k8
              have HB8 := Lib.hid b8
              have HG8 := Lib.hid (grown_trans HG7.out k8)
              clear b8 k8 s8
              go_wp2_with fail
              go_roundw
              case rel => exact ⟨k + 1, lstB s l (trL x), bstA s l (trL x), by omega, by go_num, rfl, HB8.out, HBO.out, HBR.out, HLS.out, by rw [HGO.out]; exact go_more hlt2 HN.out, HG8.out⟩
              case measure => simp [intOf]; omega
        · have j1 : ¬ (k : Int) < (n : Int) := by omega
          have HGE : Hid (fitGo s l n a (misB s l a) = (x, m, k)) := by show _ = _; rw [HGO.out, show n - k = 0 by omega, go_zero]; simp
          go_wp2_with (first | ((with_reducible refine wpList_get HBx.out Try.underlying42 rfl (by kernel_rfl) ?_ ?_); rfl) | ((with_reducible refine wpList_gateS ?_); refine wpList_put (cells := #[.float .f32 x.T, .float .f32 x.S]) HRr.out sizeAq rfl (by simp [Value.oneCell']) rfl rfl ?_))
          intro w9 s9 b9 k9
          go_wp2_with fail
          refine ret_cell4 rfl rfl (run_loadVar_row w9 R8 _ _ _ _ _ b9 Try.underlying42 rfl (by kernel_rfl)) rfl ?_
          exact ⟨m, by rw [HRR.out, HGE.out]; rfl, by rw [HRR.out, HGE.out]; exact fb_gd HM.out, below_grown HXr.out k9 HXr.out.size (by have := HB.out.size; omega)⟩
    · have HRR : Hid (frmR a s l R = ⟨⟨0, 0⟩, some 0, 0, 2⟩) := by show (if _ then _ else _) = _; rw [if_pos HC.out, if_neg hin]
      go_wp2_with (first | (go_at_call 70; refine (l00In_no _ _ _ _ (by omega)).mono ?_; rintro e w' ⟨rfl, rfl⟩) | (with_reducible refine wpList_zero (hzero _) ?_) | ((with_reducible refine wpList_gateS ?_); refine wpList_put (cells := #[.float .f32 0, .float .f32 0]) HR2.out sizeAq rfl (by simp [Value.oneCell']) rfl rfl ?_))
      intro w9 s9 b9 k9
      go_wp2_with fail
      refine ret_cell4 rfl rfl (run_loadVar_row w9 R8 _ _ _ _ _ b9 Try.underlying42 rfl (by kernel_rfl)) rfl ?_
      exact ⟨0, by rw [HRR.out]; rfl, by rw [HRR.out]; exact fb0, below_grown HB2.out k9 HB2.out.size (by omega)⟩
  · have HRR : Hid (frmR a s l R = ⟨⟨0, 0⟩, some 0, 0, c⟩) := by
      have h1 := askF_one (A := a.ok) (s := s) (l := l) (by rw [HC.out]; exact h0)
      rw [HC.out] at h1
      show (if _ then _ else _) = _
      rw [HC.out, if_neg h0, h1]
    go_wp2_with (first | (with_reducible refine wpList_zero (hzero _) ?_) | ((with_reducible refine wpList_gateS ?_); refine wpList_put (cells := #[.float .f32 0, .float .f32 0]) HR2.out sizeAq rfl (by simp [Value.oneCell']) rfl rfl ?_))
    intro w9 s9 b9 k9
    go_wp2_with fail
    refine ret_cell4 rfl rfl (run_loadVar_row w9 R8 _ _ _ _ _ b9 Try.underlying42 rfl (by kernel_rfl)) rfl ?_
    exact ⟨0, by rw [HRR.out]; rfl, by rw [HRR.out]; exact fb0, below_grown HB2.out k9 HB2.out.size (by omega)⟩
set_option maxRecDepth 100000 in
set_option maxHeartbeats 6400000 in
theorem FitFrom_any (a : Aq) (s : Si) (hs : s.Rng) (ha : a.Rng) (v : Value) (l : List Rd) (R : Int) (w : World) (hlen : l.length ≤ 1048576) (hv : RAt w v l) :
    Calls Try.prog 32 #[.agg #[.float .f32 a.T, .float .f32 a.S], .agg s.cells, v, .int .i64 R] w (RetFr (frmR a s l R) w) := by
  have HS := Lib.hid hs
  have HV := Lib.hid hv
  have HAR := Lib.hid ha
  have hlt := order_lt
  have hzero : ∀ w : World, (Instr.build 42 #[]).run Try.prog w = .ok (.agg #[.float .f32 0, .float .f32 0]) w := fun w => by kernel_rfl
  clear hs hv ha
  go_enter Try.func32, Try.ntmps32
  go_wp2_with (with_reducible refine wpList_box rfl ?_)
  intro bA wA hA1 hA2 hA3 hA4
  go_wp2_with (with_reducible refine wpList_box rfl ?_)
  intro bS wS hS1 hS2 hS3 hS4
  go_wp2_with (with_reducible refine wpList_new newA ?_)
  intro R8 wR hR1 hR2 hR3 hR4
  have HA := Lib.hid ((hA3.later hS4).later hR4)
  have HSi := Lib.hid (hS3.later hR4)
  have HR8 := Lib.hid hR3
  have HB := Lib.hid (below_next (below_next hA4 hS4) hR4)
  clear hA3 hA4 hS3 hS4 hR3 hR4
  go_wp2_with (first | ((with_reducible refine wpList_get HA.out Try.underlying42 rfl (by kernel_rfl) ?_ ?_); rfl) | ((with_reducible refine wpList_get HSi.out Try.underlying46 rfl (by kernel_rfl) ?_ ?_); rfl))
  have hone : AAt (wR.alloc (.cells #[.float .f32 a.T, .float .f32 a.S] 42)) (.slice (some ⟨wR.heap.size, 0, none⟩) 1 1) [a] := ⟨_, _, rfl, fun j e he => by
    cases j with
    | zero =>
      simp at he
      subst he
      refine ⟨HAR.out, _, rfl, fun i u hu => ?_⟩
      rw [Nat.zero_mul, Nat.zero_add]
      exact (Blk.new' wR _ _ rfl).at (by simpa [Aq.cells] using hu)
    | succ j => simp at he⟩
  refine (fitFault_any s HS.out v _ l [a] _ hlen (by simp) ((HV.out.far HB.out).far ((Below.refl _ _).alloc (Nat.le_refl _) _)) hone).mono ?_
  clear hone
  obtain ⟨c, hc⟩ : ∃ c, askF a.ok s l = c := ⟨_, rfl⟩
  have HC := Lib.hid hc
  rw [show [a].all Aq.ok = a.ok by simp, hc]
  clear hc
  rintro e w2 ⟨rfl, hb0⟩
  have hb2 := below_next ((Below.refl wR.heap.size wR).alloc (Nat.le_refl _) _) hb0
  have HA2 := Lib.hid (HA.out.later hb2)
  have HSi2 := Lib.hid (HSi.out.later hb2)
  have HR2 := Lib.hid (HR8.out.later hb2)
  have HB2 := Lib.hid (below_next HB.out hb2)
  clear hb2 hb0
  by_cases h0 : c = 0
  · subst h0
    by_cases hin : 0 ≤ R ∧ R ≤ 60
    · obtain ⟨n, rfl⟩ : ∃ n : Nat, R = n := ⟨R.toNat, by omega⟩
      have hn60 : n ≤ 60 := by omega
      have HRR : Hid (frmR a s l n = ⟨(fitGo s l n a (misB s l a)).1, some (fitGo s l n a (misB s l a)).2.1, (fitGo s l n a (misB s l a)).2.2, 0⟩) := by show (if _ then _ else _) = _; rw [if_pos HC.out, if_pos hin, Int.toNat_natCast]
      have HMI := Lib.hid (mis_every HC.out HV.out.rng)
      have hok : Hid (a.ok = true) := (ask_parts HC.out).1
      have HME := Lib.hid (HMI.out a hok.out)
      have hRl : R8 < w2.heap.size := HR2.out.lt
      have hSl : bS < w2.heap.size := HSi2.out.lt
      have hA2 := HA2.out
      go_wp2_with (go_at_call 80; refine (in_yes _ _ _ _ (by omega) (by omega)).mono ?_; rintro e w' ⟨rfl, rfl⟩)
      refine wp_chain [] (fun _ => #[.float .f32 0, .float .f32 0]) (by kernel_rfl) (by kernel_rfl) ?_
      (with_reducible refine n_get hA2 (by simp) Try.underlying42 rfl (by kernel_rfl) ?_ ?_); rfl
      (with_reducible refine n_get hA2 (by simp) Try.underlying42 rfl (by kernel_rfl) ?_ ?_); rfl
      repeat (refine n_step (fun K hK => ?_); go_simp; (try go_bits); refine hK _ _ ?_; clear hK K)
      refine n_step (fun K hK => ?_); go_simp; refine ⟨_, _, ⟨rfl, rfl⟩, rfl, fun v1 hv1 => ?_⟩
      refine (misfit_any bS a s v l v1 HME.out (HSi2.out.later hv1) ((HV.out.far HB2.out).far hv1)).mono ?_
      rintro e v2 ⟨q, rfl, hq, hv2⟩
      refine ⟨_, rfl, hv2, hK _ _ ?_⟩
      clear hK K
      obtain rfl := is_misB HME.out hq
      have HQ2 := Lib.hid (below_thru hv1 hv2)
      clear hv1 hv2 hq
      refine n_alloc newA ?_
      intro B hB
      refine n_put (cells := #[.float .f32 a.T, .float .f32 a.S]) (old := #[.float .f32 0, .float .f32 0]) (fun w2 _ hΦ => hΦ.2.2) (.inl hB) (Cls.of_below HQ2.out) sizeAq rfl (by simp [Value.oneCell']) rfl rfl ?_
      intro w3 w3x hb3 hP3 b3x k3x HC3x
      have HQ3 := Lib.hid (below_thru HQ2.out hb3)
      clear hb3 hP3 HQ2 HC3x
      repeat (refine n_step (fun K hK => ?_); go_simp; (try go_bits); refine hK _ _ ?_; clear hK K)
      refine n_nil ?_
      rintro w5 hw5 _
      have b5 := b3x.later hw5
      have k5 := grown_trans k3x (grown_below hw5)
      have HB5 := Lib.hid b5
      have HS5 := Lib.hid ((HSi2.out.later HQ3.out).grown k5 (by omega))
      have HR5 := Lib.hid ((HR2.out.later HQ3.out).grown k5 (by omega))
      have HX5 := Lib.hid (below_grown (below_next HB2.out HQ3.out) k5 (below_next HB2.out HQ3.out).size (by have := HB2.out.size; omega))
      have HM0 := Lib.hid (misB_eq HME.out).2
      have hBl : B < w5.heap.size := HB5.out.lt
      have hwB : w.heap.size ≤ B := by have := HB2.out.size; omega
      clear b5 k5 b3x k3x hw5 hA2
      go_wp2_with fail
      go_loopw [14, 15] (fun v14 v15 wr => FrRel a s l n B w5 v14 v15 wr) (fun _ v15 _ => n - (intOf v15).toNat)
      case atStart => exact ⟨0, misB s l a, a, by omega, rfl, rfl, HB5.out, hok.out, HAR.out, HM0.out, by simp, grown_refl _ _⟩
      case round =>
        obtain ⟨k, m, x, hk, rfl, rfl, hBx, hxo, hxr, hm, hgo, hgr⟩ := hrel
        have HBx := Lib.hid hBx
        have HXO := Lib.hid hxo
        have HXR := Lib.hid hxr
        have HM := Lib.hid hm
        have HGO := Lib.hid hgo
        have HGR := Lib.hid hgr
        have HSr := Lib.hid (HS5.out.grown hgr (by omega))
        have HRr := Lib.hid (HR5.out.grown hgr (by omega))
        have HXr := Lib.hid (below_grown HX5.out hgr HX5.out.size hwB)
        clear hBx hxo hxr hm hgo hgr
        have hRB : R8 ≠ B := by omega
        by_cases hlt2 : k < n
        · have j1 : (k : Int) < (n : Int) := by omega
          go_wp2_with ((with_reducible refine wpList_get HBx.out Try.underlying42 rfl (by kernel_rfl) ?_ ?_); rfl)
          refine (better_any bS m x s v l wr HXO.out HMI.out ⟨fb_gd HM.out, HM.out⟩ HSr.out (HV.out.far HXr.out)).mono ?_
          rintro e w6 ⟨rfl, hb6⟩
          have hBx6 := HBx.out.later hb6
          have hR6 := HRr.out.later hb6
          have HG6 := Lib.hid (grown_trans HGR.out (grown_below hb6))
          have HX6 := Lib.hid (below_next HXr.out hb6)
          have hB6l : B < w6.heap.size := hBx6.lt
          have hR6l : R8 < w6.heap.size := hR6.lt
          clear hb6
          go_wp2_with (with_reducible refine wpList_new newA ?_)
          intro C w7 hC1 hC2 hC3 hC4
          have hBx7 := hBx6.later hC4
          have hR7 := hR6.later hC4
          go_wp2_with ((with_reducible refine wpList_gateS ?_); refine wpList_put (cells := #[.float .f32 (bstA s l (trL x)).T, .float .f32 (bstA s l (trL x)).S]) hC3 sizeAq rfl (by simp [Value.oneCell']) rfl rfl ?_)
          intro w8 s8 b8 k8
          have HB8 := Lib.hid (hBx7.grown k8 (by omega))
          have HR8' := Lib.hid (hR7.grown k8 (by omega))
          have HC8 := Lib.hid b8
          have HG8 := Lib.hid (grown_trans HG6.out (show w6.grownBy w8 (some B) from ⟨k8.os.trans hC4.os, k8.tape.trans hC4.tape, k8.output.trans hC4.output, by have := hC4.size; have := k8.size; omega, fun k hk hne => (k8.block k (by have := hC4.size; omega) (by simp; omega)).trans (hC4.block k hk)⟩))
          have HX8 := Lib.hid (below_grown HX5.out HG8.out HX5.out.size hwB)
          clear hC3 hC4 hBx6 hBx7 hR6 hR7 b8 k8 s8
          cases hT : (!(trL x).isEmpty && decide (lstB s l (trL x) < m))
          · have HN : Hid (fitStep s l x m = none) := by show (if _ then _ else _) = _; rw [hT]; rfl
            have HGE : Hid (fitGo s l n a (misB s l a) = (x, m, k)) := by show _ = _; rw [HGO.out, go_none HN.out]; simp
            clear hT
            go_wp2_with (first | ((with_reducible refine wpList_get HB8.out Try.underlying42 rfl (by kernel_rfl) ?_ ?_); rfl) | ((with_reducible refine wpList_gateS ?_); refine wpList_put (cells := #[.float .f32 x.T, .float .f32 x.S]) HR8'.out sizeAq rfl (by simp [Value.oneCell']) rfl rfl ?_))
            intro w9 s9 b9 k9
            go_wp2_with fail
            refine ret_cell4 rfl rfl (run_loadVar_row w9 R8 _ _ _ _ _ b9 Try.underlying42 rfl (by kernel_rfl)) rfl ?_
            exact ⟨m, by rw [HRR.out, HGE.out]; rfl, by rw [HRR.out, HGE.out]; exact fb_gd HM.out, below_grown HX8.out k9 HX8.out.size (by have := HB.out.size; omega)⟩
          · have HN : Hid (fitStep s l x m = some (bstA s l (trL x), lstB s l (trL x))) := by show (if _ then _ else _) = _; rw [hT]; rfl
            have hne : trL x ≠ [] := by intro h; rw [h] at hT; cases hT
            obtain ⟨m1, m2⟩ := bst_mem (s := s) (l := l) hne
            have HBO := Lib.hid (trL_ok m2)
            have HBR := Lib.hid (trL_rng HXO.out HXR.out _ m2)
            have HLS := Lib.hid (lst_gd (s := s) (l := l) (L := trL x) (fun e he => HMI.out e (trL_ok he))).2
            clear hT hne m1 m2
            go_wp2_with (first | ((with_reducible refine wpList_get HC8.out Try.underlying42 rfl (by kernel_rfl) ?_ ?_); rfl) | ((with_reducible refine wpList_gateS ?_); refine wpList_put (cells := #[.float .f32 (bstA s l (trL x)).T, .float .f32 (bstA s l (trL x)).S]) HB8.out sizeAq rfl (by simp [Value.oneCell']) rfl rfl ?_))
            intro w9 s9 b9 k9
            have HB9 := Lib.hid b9
            have HG9 := Lib.hid (grown_trans HG8.out k9)
            clear b9 k9 s9
            go_wp2_with fail
            go_roundw
            case rel => exact ⟨k + 1, lstB s l (trL x), bstA s l (trL x), by omega, by go_num, rfl, HB9.out, HBO.out, HBR.out, HLS.out, by rw [HGO.out]; exact go_more hlt2 HN.out, HG9.out⟩
            case measure => simp [intOf]; omega
        · have j1 : ¬ (k : Int) < (n : Int) := by omega
          have HGE : Hid (fitGo s l n a (misB s l a) = (x, m, k)) := by show _ = _; rw [HGO.out, show n - k = 0 by omega, go_zero]; simp
          go_wp2_with (first | ((with_reducible refine wpList_get HBx.out Try.underlying42 rfl (by kernel_rfl) ?_ ?_); rfl) | ((with_reducible refine wpList_gateS ?_); refine wpList_put (cells := #[.float .f32 x.T, .float .f32 x.S]) HRr.out sizeAq rfl (by simp [Value.oneCell']) rfl rfl ?_))
          intro w9 s9 b9 k9
          go_wp2_with fail
          refine ret_cell4 rfl rfl (run_loadVar_row w9 R8 _ _ _ _ _ b9 Try.underlying42 rfl (by kernel_rfl)) rfl ?_
          exact ⟨m, by rw [HRR.out, HGE.out]; rfl, by rw [HRR.out, HGE.out]; exact fb_gd HM.out, below_grown HXr.out k9 HXr.out.size (by have := HB.out.size; omega)⟩
    · have HRR : Hid (frmR a s l R = ⟨⟨0, 0⟩, some 0, 0, 2⟩) := by show (if _ then _ else _) = _; rw [if_pos HC.out, if_neg hin]
      go_wp2_with (first | (go_at_call 80; refine (in_no _ _ _ _ (by omega)).mono ?_; rintro e w' ⟨rfl, rfl⟩) | (with_reducible refine wpList_zero (hzero _) ?_) | ((with_reducible refine wpList_gateS ?_); refine wpList_put (cells := #[.float .f32 0, .float .f32 0]) HR2.out sizeAq rfl (by simp [Value.oneCell']) rfl rfl ?_))
      intro w9 s9 b9 k9
      go_wp2_with fail
      refine ret_cell4 rfl rfl (run_loadVar_row w9 R8 _ _ _ _ _ b9 Try.underlying42 rfl (by kernel_rfl)) rfl ?_
      exact ⟨0, by rw [HRR.out]; rfl, by rw [HRR.out]; exact fb0, below_grown HB2.out k9 HB2.out.size (by have := HB.out.size; omega)⟩
  · have HRR : Hid (frmR a s l R = ⟨⟨0, 0⟩, some 0, 0, c⟩) := by
      have h1 := askF_one (A := a.ok) (s := s) (l := l) (by rw [HC.out]; exact h0)
      rw [HC.out] at h1
      show (if _ then _ else _) = _
      rw [HC.out, if_neg h0, h1]
    go_wp2_with (first | (with_reducible refine wpList_zero (hzero _) ?_) | ((with_reducible refine wpList_gateS ?_); refine wpList_put (cells := #[.float .f32 0, .float .f32 0]) HR2.out sizeAq rfl (by simp [Value.oneCell']) rfl rfl ?_))
    intro w9 s9 b9 k9
    go_wp2_with fail
    refine ret_cell4 rfl rfl (run_loadVar_row w9 R8 _ _ _ _ _ b9 Try.underlying42 rfl (by kernel_rfl)) rfl ?_
    exact ⟨0, by rw [HRR.out]; rfl, by rw [HRR.out]; exact fb0, below_grown HB2.out k9 HB2.out.size (by have := HB.out.size; omega)⟩
end Go.Proofs.Ytonmdkhfongmhaa
