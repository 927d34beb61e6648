/- Merging in place: the general case, and the whole. -/
import Derived.Test.YtonmdkhfongmhaaTmrg
namespace Go.Proofs.Ytonmdkhfongmhaa
open Go.RowKit Go.Lib Go.Sort

theorem rot_none {d : Array NB} {s m t : Nat} (h1 : s ≤ m) (h2 : m ≤ t) (h : ¬ (s < m ∧ m < t)) (q : Nat) : d[q]! = rotG d s m t q := by
  unfold rotG
  repeat' split
  all_goals first | (exfalso; omega) | rfl | (congr 1; omega)
theorem sorted_out {e e1 : Array NB} {a mid lo hi : Nat} (hp : PermIn a mid e e1) (h : SortedIn ltN lo hi e) (hl : mid ≤ lo) : SortedIn ltN lo hi e1 := fun p q h1 h2 h3 => by
  rw [hp.2.1 p (.inr (by omega)), hp.2.1 q (.inr (by omega))]
  exact h p q h1 h2 h3
theorem sorted_left {e : Array NB} {a s mid : Nat} (h1 : SortedIn ltN a s e) (h2 : SortedIn ltN s mid e) (ha : a ≤ s) (hs : s ≤ mid) (h : ¬ (a < s ∧ s < mid)) : SortedIn ltN a mid e := by
  by_cases c : a < s
  · obtain rfl : s = mid := by omega
    exact h1
  · obtain rfl : s = a := by omega
    exact h2
/-- Merging is done for what is shorter than L. -/
def MrgIH (blk off cap N L : Nat) (d0 : Array NB) (w : World) : Prop := ∀ (a m b : Nat) (d : Array NB) (k0 : Nat), b - a < L → a < m → m < b → b ≤ N → d.size = d0.size → SortedIn ltN a m d → SortedIn ltN m b d → Calls Try.prog 114 #[.slice (some ⟨blk, off, none⟩) N cap, .int .i64 a, .int .i64 m, .int .i64 b, .func (.func 56) #[] #[]] ((putRow encN w blk off d).drewN k0)
  (RetPut w blk off N (fun d' => PermIn a b d d' ∧ SortedIn ltN a b d'))

set_option maxHeartbeats 16000000 in
set_option maxRecDepth 1000000 in
theorem symMerge_c3 (blk off cap N a m b : Nat) (d0 d : Array NB) (k0 : Nat) (w : World) (hH : Holds encN w blk off d0) (hs : d.size = d0.size) (hN : d0.size = N) (ham : a < m) (hmb : m < b) (hb : b ≤ N) (hsz : N < 4611686018427387904) (hm1 : m ≠ a + 1) (hm2 : b ≠ m + 1)
    (hL : SortedIn ltN a m d) (hR : SortedIn ltN m b d) (ih : MrgIH blk off cap N (b - a) d0 w) :
    Calls Try.prog 114 #[.slice (some ⟨blk, off, none⟩) N cap, .int .i64 a, .int .i64 m, .int .i64 b, .func (.func 56) #[] #[]] ((putRow encN w blk off d).drewN k0)
      (RetPut w blk off N (fun d' => PermIn a b d d' ∧ SortedIn ltN a b d')) := by
  have mixed : Try.prog.follows .mixedOrders = true := by kernel_rfl
  have HH := Lib.hid hH
  have HL0 := Lib.hid hL
  have HR := Lib.hid hR
  have HS := Lib.hid hs
  have HN := Lib.hid hN
  have hdN : d.size = N := by omega
  have HDN := Lib.hid hdN
  have HIH := Lib.hid ih
  clear hH hL hR hs hN hdN ih
  obtain ⟨p0, hp0⟩ : ∃ p0, p0 = m - a := ⟨_, rfl⟩
  obtain ⟨p1, hp1⟩ : ∃ p1, p1 = b - m := ⟨_, rfl⟩
  have e0 : (m : Int) - (a : Int) = (p0 : Int) := by omega
  have e01 : ¬ (p0 : Int) = 1 := by omega
  have e02 : ((p0 : Int) == 1) = false := by simpa using e01
  have e03 : (b : Int) - (m : Int) = (p1 : Int) := by omega
  have e04 : ¬ (p1 : Int) = 1 := by omega
  have e05 : ((p1 : Int) == 1) = false := by simpa using e04
  clear hm1 hm2 hp0 hp1
  obtain ⟨mid, hmid⟩ : ∃ mid, mid = (a + b) / 2 := ⟨_, rfl⟩
  have e06 : ((a : Int) + (b : Int)) / 2 = (mid : Int) := by omega
  obtain ⟨n, hn⟩ : ∃ n, n = mid + m := ⟨_, rfl⟩
  have e07 : (mid : Int) + (m : Int) = (n : Int) := by omega
  obtain ⟨p, hp⟩ : ∃ p, p = n - 1 := ⟨_, rfl⟩
  have e08 : (n : Int) - 1 = (p : Int) := by omega
  have hmid1 : a < mid := by omega
  have hmid2 : mid < b := by omega
  have hmid3 : 2 * mid ≤ a + b := by omega
  have hmid4 : a + b ≤ 2 * mid + 1 := by omega
  have HNN := Lib.hid hn
  have HP := Lib.hid hp
  have hnb : n < 9223372036854775807 := by omega
  clear hmid hn hp
  rcases Nat.lt_or_ge mid m with hmm | hmm
  · have hmmz : (mid : Int) < (m : Int) := by omega
    obtain ⟨s0, hs0⟩ : ∃ s0, s0 = n - b := ⟨_, rfl⟩
    have q0 := HNN.out
    have e09 : (n : Int) - (b : Int) = (s0 : Int) := by omega
    have hs0a : a ≤ s0 := by omega
    have hs0r : s0 ≤ mid := by omega
    have HS0 : Hid (s0 + b = n) := by show _ = _; omega
    have hr0 : mid ≤ m := by omega
    have hrm : mid ≤ mid := Nat.le_refl _
    have hsb : n ≤ b + s0 := by omega
    have HF1 : Hid (∀ s, s = s0 → s + b = n) := fun s hs => by rw [hs]; exact HS0.out
    have HF2 : Hid (∀ s, s = mid → s + m = n) := fun s hs => by rw [hs]; exact HNN.out.symm
    clear hs0 q0
    go_enter Try.func114, Try.ntmps114
    go_wp2_with fail
    go_loopg [20, 21] (mid - s0) (fun g vs vr wr => ∃ (s r k : Nat), vs = .int .i64 s ∧ vr = .int .i64 r ∧ s0 ≤ s ∧ s ≤ r ∧ r ≤ mid ∧ r - s ≤ g ∧ Hid ((s = s0 ∨ ltN d[n - s]! d[s - 1]! = false) ∧ (r = mid ∨ ltN d[n - 1 - r]! d[r]! = true)) ∧ wr = (putRow encN w blk off d).drewN k)
    case atStart => exact ⟨s0, mid, k0, rfl, rfl, by omega, by omega, by omega, by omega, (show _ ∧ _ from ⟨.inl rfl, .inl rfl⟩), rfl⟩
    case round =>
      obtain ⟨s, r, k, rfl, rfl, hs1, hsr, hr1, hg, HI, rfl⟩ := hrel
      have q1 := HNN.out
      have q2 := HP.out
      by_cases hlt : s < r
      · have hltz : (s : Int) < (r : Int) := by omega
        obtain ⟨c, hc⟩ : ∃ c, c = (s + r) / 2 := ⟨_, rfl⟩
        have hmc : ((s : Int) + (r : Int)) / 2 = (c : Int) := by omega
        have hsc : s ≤ c := by omega
        have hcr : c < r := by omega
        obtain ⟨q, hq⟩ : ∃ q, q = n - 1 - c := ⟨_, rfl⟩
        have e10 : (p : Int) - (c : Int) = (q : Int) := by omega
        have e11 : IntKind.i64.wrap (q : Int) = (q : Int) := by rw [IntKind.wrap_i64]; omega
        have hqN : q < N := by omega
        have HD := holds_again HH.out HS.out k
        obtain ⟨x, hx⟩ : ∃ x, d[q]! = x := ⟨_, rfl⟩
        obtain ⟨y, hy⟩ : ∃ y, d[c]! = y := ⟨_, rfl⟩
        obtain ⟨cq, _⟩ := HD q (by have := HDN.out; omega)
        obtain ⟨cc, _⟩ := HD c (by have := HDN.out; omega)
        rw [hx] at cq
        rw [hy] at cc
        have cq' : ((putRow encN w blk off d).drewN k).cell? ⟨blk, off + q, none⟩ = some (.float .f32 x.1) := cq
        have cc' : ((putRow encN w blk off d).drewN k).cell? ⟨blk, off + c, none⟩ = some (.float .f32 y.1) := cc
        have z1 : (q : Int) < (N : Int) := by omega
        have z2 : (c : Int) < (N : Int) := by omega
        have HX := Lib.hid hx
        have HY := Lib.hid hy
        have HQ := Lib.hid hq
        clear HD cq cc hx hy hc hq q1 q2
        generalize hwq : (putRow encN w blk off d).drewN k = wq at cq' cc' ⊢
        have HWQ := Lib.hid hwq
        clear hwq
        have HCL : Hid (∀ w, Calls Try.prog 56 #[.float .f32 x.1, .float .f32 y.1] w fun e w' => e = .returned (.int .i64 (zN x y)) ∧ w' = w) := fun w => cmpF_any x y w
        have hz0 := zN_neg x y
        cases hl : ltN x y
        · have HL := Lib.hid hl
          rw [hl] at hz0
          generalize zN x y = z at HCL hz0
          have hz1 : ¬ z < 0 := of_decide_eq_false hz0
          have hz2 : (!decide (z < 0)) = true := by rw [hz0]; rfl
          clear hl hz0
          go_wp2_with fail
          go_quiet_o (exact Calls.quiet_of_same (HCL.out _))
          go_wp2_with fail
          go_roundg (r - (c + 1))
          case measure => omega
          case rel =>
            have q3 := HQ.out
            exact ⟨c + 1, r, _, by go_num, rfl, by omega, by omega, by omega, by omega, (show _ ∧ _ from ⟨.inr (by rw [Nat.add_sub_cancel, show n - (c + 1) = q by omega, HX.out, HY.out]; exact HL.out), HI.out.2⟩), by rw [← HWQ.out, World.drewN_drewN]⟩
        · have HL := Lib.hid hl
          rw [hl] at hz0
          generalize zN x y = z at HCL hz0
          have hz1 : z < 0 := of_decide_eq_true hz0
          have hz2 : (!decide (z < 0)) = false := by rw [hz0]; rfl
          clear hl hz0
          go_wp2_with fail
          go_quiet_o (exact Calls.quiet_of_same (HCL.out _))
          go_wp2_with fail
          go_roundg (c - s)
          case measure => omega
          case rel =>
            have q3 := HQ.out
            exact ⟨s, c, _, rfl, rfl, by omega, by omega, by omega, by omega, (show _ ∧ _ from ⟨HI.out.1, .inr (by rw [← q3, HX.out, HY.out]; exact HL.out)⟩), by rw [← HWQ.out, World.drewN_drewN]⟩
      · have hltz : ¬ (s : Int) < (r : Int) := by omega
        obtain rfl : s = r := by omega
        obtain ⟨t, ht⟩ : ∃ t, t = n - s := ⟨_, rfl⟩
        have e12 : (n : Int) - (s : Int) = (t : Int) := by omega
        have e13 : IntKind.i64.wrap (t : Int) = (t : Int) := by rw [IntKind.wrap_i64]; omega
        have ht1 : m ≤ t := by omega
        have ht2 : t ≤ b := by omega
        have ht3 : mid ≤ t := by omega
        have hsm : s ≤ m := by omega
        have hsmid : s ≤ mid := by omega
        have has : a ≤ s := by omega
        have HST : Hid (t + s = mid + m) := by show _ = _; omega
        have HT := Lib.hid ht
        have HSPL : Hid (∀ e : Array NB, (∀ k, e[k]! = rotG d s m t k) → SortedIn ltN a s e ∧ SortedIn ltN s mid e ∧ SortedIn ltN mid t e ∧ SortedIn ltN t b e ∧ (∀ i j, a ≤ i → i < mid → mid ≤ j → j < b → ltN e[j]! e[i]! = false)) := by
          show ∀ _, _
          intro e he
          refine merge_split swo_ltN HL0.out HR.out has hsm ht1 ht2 HST.out (fun h1 h2 => ?_) (fun h1 h2 => ?_) he
          · rcases HI.out.1 with h3 | h3
            · exfalso; have := HF1.out s h3; have := HT.out; omega
            · rw [HT.out]; exact h3
          · rcases HI.out.2 with h3 | h3
            · exfalso; have := HF2.out s h3; have := HT.out; omega
            · rw [show t - 1 = n - 1 - s by have := HT.out; omega]; exact h3
        clear q1 q2 ht
        have hsteq := HST.out
        by_cases hc1 : s < m
        · by_cases hc2 : m < t
          · have hr1 : mid < t := by omega
            have hl2 : s < mid := by omega
            by_cases hl1 : a < s
            · by_cases hr2 : t < b
              · -- turned, both
                have hf0 : (s : Int) < (m : Int) := by omega
                have hf1 : (m : Int) < (t : Int) := by omega
                have hf2 : (a : Int) < (s : Int) := by omega
                have hf3 : (s : Int) < (mid : Int) := by omega
                have hf4 : (mid : Int) < (t : Int) := by omega
                have hf5 : (t : Int) < (b : Int) := by omega
                go_wp2_with fail
                refine (rotate_at blk off cap N s m t d0 d k w HH.out HS.out HN.out hc1 hc2 (by omega) hsz).mono ?_
                rintro e0 w1 ⟨rfl, e, k1, rfl, hsz1, hp1, hg1⟩
                have HE := Lib.hid (HSPL.out e hg1)
                have HP1 := Lib.hid hp1
                have HZ1 : Hid (e.size = d0.size) := (show Hid _ from hsz1.trans HN.out.symm)
                clear hsz1 hp1 hg1
                go_wp2_with fail
                refine (HIH.out a s mid e k1 (by omega) hl1 hl2 (by omega) HZ1.out HE.out.1 HE.out.2.1).mono ?_
                rintro e0 w2 ⟨rfl, e1, k2, rfl, hsz2, hp2⟩
                have HPL := Lib.hid hp2
                have HZ2 : Hid (e1.size = d0.size) := (show Hid _ from hsz2.trans HN.out.symm)
                clear hsz2 hp2
                go_wp2_with fail
                refine (HIH.out mid t b e1 k2 (by omega) hr1 hr2 hb HZ2.out (sorted_out HPL.out.1 HE.out.2.2.1 (Nat.le_refl _)) (sorted_out HPL.out.1 HE.out.2.2.2.1 ht3)).mono ?_
                rintro e0 w3 ⟨rfl, e2, k3, rfl, hsz3, hp3⟩
                have HPR := Lib.hid hp3
                have HZ3 : Hid (e2.size = d0.size) := (show Hid _ from hsz3.trans HN.out.symm)
                clear hsz3 hp3
                go_wp2_with fail
                go_end0
                have hsd := HDN.out
                have hse := HZ1.out
                have hs0 := HN.out
                have hj := merge_join (lt := ltN) (by omega : a ≤ mid) (by omega : mid ≤ b) (by omega : b ≤ e.size) HE.out.2.2.2.2 HPL.out.1 HPL.out.2 HPR.out.1 HPR.out.2
                exact ⟨rfl, e2, k3, rfl, HZ3.out.trans hs0, permIn_trans _ _ _ _ _ (permIn_mono d e s t a b has ht2 (by omega) HP1.out) hj.2, hj.1⟩
              · -- turned, left
                have hf0 : (s : Int) < (m : Int) := by omega
                have hf1 : (m : Int) < (t : Int) := by omega
                have hf2 : (a : Int) < (s : Int) := by omega
                have hf3 : (s : Int) < (mid : Int) := by omega
                have hf4 : (mid : Int) < (t : Int) := by omega
                have hf5 : ¬ (t : Int) < (b : Int) := by omega
                go_wp2_with fail
                refine (rotate_at blk off cap N s m t d0 d k w HH.out HS.out HN.out hc1 hc2 (by omega) hsz).mono ?_
                rintro e0 w1 ⟨rfl, e, k1, rfl, hsz1, hp1, hg1⟩
                have HE := Lib.hid (HSPL.out e hg1)
                have HP1 := Lib.hid hp1
                have HZ1 : Hid (e.size = d0.size) := (show Hid _ from hsz1.trans HN.out.symm)
                clear hsz1 hp1 hg1
                go_wp2_with fail
                refine (HIH.out a s mid e k1 (by omega) hl1 hl2 (by omega) HZ1.out HE.out.1 HE.out.2.1).mono ?_
                rintro e0 w2 ⟨rfl, e1, k2, rfl, hsz2, hp2⟩
                have HPL := Lib.hid hp2
                have HZ2 : Hid (e1.size = d0.size) := (show Hid _ from hsz2.trans HN.out.symm)
                clear hsz2 hp2
                go_wp2_with fail
                go_end0
                have hsd := HDN.out
                have hse := HZ1.out
                have hs0 := HN.out
                have hj := merge_join (lt := ltN) (by omega : a ≤ mid) (by omega : mid ≤ b) (by omega : b ≤ e.size) HE.out.2.2.2.2 HPL.out.1 HPL.out.2 (show PermIn mid b e1 e1 ∧ SortedIn ltN mid b e1 from ⟨permIn_refl _ _ _, sorted_left (sorted_out HPL.out.1 HE.out.2.2.1 (Nat.le_refl _)) (sorted_out HPL.out.1 HE.out.2.2.2.1 ht3) ht3 ht2 (by omega)⟩).1 (show PermIn mid b e1 e1 ∧ SortedIn ltN mid b e1 from ⟨permIn_refl _ _ _, sorted_left (sorted_out HPL.out.1 HE.out.2.2.1 (Nat.le_refl _)) (sorted_out HPL.out.1 HE.out.2.2.2.1 ht3) ht3 ht2 (by omega)⟩).2
                exact ⟨rfl, e1, k2, rfl, HZ2.out.trans hs0, permIn_trans _ _ _ _ _ (permIn_mono d e s t a b has ht2 (by omega) HP1.out) hj.2, hj.1⟩
            · by_cases hr2 : t < b
              · -- turned, right
                have hf0 : (s : Int) < (m : Int) := by omega
                have hf1 : (m : Int) < (t : Int) := by omega
                have hf2 : ¬ (a : Int) < (s : Int) := by omega
                have hf3 : (mid : Int) < (t : Int) := by omega
                have hf4 : (t : Int) < (b : Int) := by omega
                go_wp2_with fail
                refine (rotate_at blk off cap N s m t d0 d k w HH.out HS.out HN.out hc1 hc2 (by omega) hsz).mono ?_
                rintro e0 w1 ⟨rfl, e, k1, rfl, hsz1, hp1, hg1⟩
                have HE := Lib.hid (HSPL.out e hg1)
                have HP1 := Lib.hid hp1
                have HZ1 : Hid (e.size = d0.size) := (show Hid _ from hsz1.trans HN.out.symm)
                clear hsz1 hp1 hg1
                go_wp2_with fail
                refine (HIH.out mid t b e k1 (by omega) hr1 hr2 hb HZ1.out (sorted_out (show PermIn a mid e e ∧ SortedIn ltN a mid e from ⟨permIn_refl _ _ _, sorted_left HE.out.1 HE.out.2.1 has hsmid (by omega)⟩).1 HE.out.2.2.1 (Nat.le_refl _)) (sorted_out (show PermIn a mid e e ∧ SortedIn ltN a mid e from ⟨permIn_refl _ _ _, sorted_left HE.out.1 HE.out.2.1 has hsmid (by omega)⟩).1 HE.out.2.2.2.1 ht3)).mono ?_
                rintro e0 w3 ⟨rfl, e2, k3, rfl, hsz3, hp3⟩
                have HPR := Lib.hid hp3
                have HZ3 : Hid (e2.size = d0.size) := (show Hid _ from hsz3.trans HN.out.symm)
                clear hsz3 hp3
                go_wp2_with fail
                go_end0
                have hsd := HDN.out
                have hse := HZ1.out
                have hs0 := HN.out
                have hj := merge_join (lt := ltN) (by omega : a ≤ mid) (by omega : mid ≤ b) (by omega : b ≤ e.size) HE.out.2.2.2.2 (show PermIn a mid e e ∧ SortedIn ltN a mid e from ⟨permIn_refl _ _ _, sorted_left HE.out.1 HE.out.2.1 has hsmid (by omega)⟩).1 (show PermIn a mid e e ∧ SortedIn ltN a mid e from ⟨permIn_refl _ _ _, sorted_left HE.out.1 HE.out.2.1 has hsmid (by omega)⟩).2 HPR.out.1 HPR.out.2
                exact ⟨rfl, e2, k3, rfl, HZ3.out.trans hs0, permIn_trans _ _ _ _ _ (permIn_mono d e s t a b has ht2 (by omega) HP1.out) hj.2, hj.1⟩
              · -- turned, none
                have hf0 : (s : Int) < (m : Int) := by omega
                have hf1 : (m : Int) < (t : Int) := by omega
                have hf2 : ¬ (a : Int) < (s : Int) := by omega
                have hf3 : (mid : Int) < (t : Int) := by omega
                have hf4 : ¬ (t : Int) < (b : Int) := by omega
                go_wp2_with fail
                refine (rotate_at blk off cap N s m t d0 d k w HH.out HS.out HN.out hc1 hc2 (by omega) hsz).mono ?_
                rintro e0 w1 ⟨rfl, e, k1, rfl, hsz1, hp1, hg1⟩
                have HE := Lib.hid (HSPL.out e hg1)
                have HP1 := Lib.hid hp1
                have HZ1 : Hid (e.size = d0.size) := (show Hid _ from hsz1.trans HN.out.symm)
                clear hsz1 hp1 hg1
                go_wp2_with fail
                go_end0
                have hsd := HDN.out
                have hse := HZ1.out
                have hs0 := HN.out
                have hj := merge_join (lt := ltN) (by omega : a ≤ mid) (by omega : mid ≤ b) (by omega : b ≤ e.size) HE.out.2.2.2.2 (show PermIn a mid e e ∧ SortedIn ltN a mid e from ⟨permIn_refl _ _ _, sorted_left HE.out.1 HE.out.2.1 has hsmid (by omega)⟩).1 (show PermIn a mid e e ∧ SortedIn ltN a mid e from ⟨permIn_refl _ _ _, sorted_left HE.out.1 HE.out.2.1 has hsmid (by omega)⟩).2 (show PermIn mid b e e ∧ SortedIn ltN mid b e from ⟨permIn_refl _ _ _, sorted_left (sorted_out (show PermIn a mid e e ∧ SortedIn ltN a mid e from ⟨permIn_refl _ _ _, sorted_left HE.out.1 HE.out.2.1 has hsmid (by omega)⟩).1 HE.out.2.2.1 (Nat.le_refl _)) (sorted_out (show PermIn a mid e e ∧ SortedIn ltN a mid e from ⟨permIn_refl _ _ _, sorted_left HE.out.1 HE.out.2.1 has hsmid (by omega)⟩).1 HE.out.2.2.2.1 ht3) ht3 ht2 (by omega)⟩).1 (show PermIn mid b e e ∧ SortedIn ltN mid b e from ⟨permIn_refl _ _ _, sorted_left (sorted_out (show PermIn a mid e e ∧ SortedIn ltN a mid e from ⟨permIn_refl _ _ _, sorted_left HE.out.1 HE.out.2.1 has hsmid (by omega)⟩).1 HE.out.2.2.1 (Nat.le_refl _)) (sorted_out (show PermIn a mid e e ∧ SortedIn ltN a mid e from ⟨permIn_refl _ _ _, sorted_left HE.out.1 HE.out.2.1 has hsmid (by omega)⟩).1 HE.out.2.2.2.1 ht3) ht3 ht2 (by omega)⟩).2
                exact ⟨rfl, e, k1, rfl, HZ1.out.trans hs0, permIn_trans _ _ _ _ _ (permIn_mono d e s t a b has ht2 (by omega) HP1.out) hj.2, hj.1⟩
          · have hr1 : mid < t := by omega
            have hr2 : t < b := by omega
            have hf0 : (s : Int) < (m : Int) := by omega
            have hf1 : ¬ (m : Int) < (t : Int) := by omega
            have hf2 : (a : Int) < (s : Int) := by omega
            have hf3 : ¬ (s : Int) < (mid : Int) := by omega
            have hf4 : (mid : Int) < (t : Int) := by omega
            have hf5 : (t : Int) < (b : Int) := by omega
            have HE := Lib.hid (HSPL.out d (fun q => rot_none hsm ht1 (by omega) q))
            have HPL : Hid (PermIn a mid d d ∧ SortedIn ltN a mid d) := ⟨permIn_refl _ _ _, sorted_left HE.out.1 HE.out.2.1 has hsmid (by omega)⟩
            go_wp2_with fail
            refine (HIH.out mid t b d k (by omega) hr1 hr2 hb HS.out (sorted_out HPL.out.1 HE.out.2.2.1 (Nat.le_refl _)) (sorted_out HPL.out.1 HE.out.2.2.2.1 ht3)).mono ?_
            rintro e0 w3 ⟨rfl, e2, k3, rfl, hsz3, hp3⟩
            have HPR := Lib.hid hp3
            have HZ3 : Hid (e2.size = d0.size) := (show Hid _ from hsz3.trans HN.out.symm)
            clear hsz3 hp3
            go_wp2_with fail
            go_end0
            have hsd := HDN.out
            have hse := HS.out
            have hs0 := HN.out
            have hj := merge_join (lt := ltN) (by omega : a ≤ mid) (by omega : mid ≤ b) (by omega : b ≤ d.size) HE.out.2.2.2.2 HPL.out.1 HPL.out.2 HPR.out.1 HPR.out.2
            exact ⟨rfl, e2, k3, rfl, HZ3.out.trans hs0, permIn_trans _ _ _ _ _ (permIn_refl d a b) hj.2, hj.1⟩
        · exfalso; omega
  · have hmmz : ¬ (mid : Int) < (m : Int) := by omega
    have q0 := HNN.out
    have hs0a : a ≤ a := Nat.le_refl _
    have hs0r : a ≤ m := by omega
    have hr0 : m ≤ m := Nat.le_refl _
    have hrm : m ≤ mid := by omega
    have hsb : n ≤ b + a := by omega
    clear q0
    go_enter Try.func114, Try.ntmps114
    go_wp2_with fail
    go_loopg [20, 21] (m - a) (fun g vs vr wr => ∃ (s r k : Nat), vs = .int .i64 s ∧ vr = .int .i64 r ∧ a ≤ s ∧ s ≤ r ∧ r ≤ m ∧ r - s ≤ g ∧ Hid ((s = a ∨ ltN d[n - s]! d[s - 1]! = false) ∧ (r = m ∨ ltN d[n - 1 - r]! d[r]! = true)) ∧ wr = (putRow encN w blk off d).drewN k)
    case atStart => exact ⟨a, m, k0, rfl, rfl, by omega, by omega, by omega, by omega, (show _ ∧ _ from ⟨.inl rfl, .inl rfl⟩), rfl⟩
    case round =>
      obtain ⟨s, r, k, rfl, rfl, hs1, hsr, hr1, hg, HI, rfl⟩ := hrel
      have q1 := HNN.out
      have q2 := HP.out
      by_cases hlt : s < r
      · have hltz : (s : Int) < (r : Int) := by omega
        obtain ⟨c, hc⟩ : ∃ c, c = (s + r) / 2 := ⟨_, rfl⟩
        have hmc : ((s : Int) + (r : Int)) / 2 = (c : Int) := by omega
        have hsc : s ≤ c := by omega
        have hcr : c < r := by omega
        obtain ⟨q, hq⟩ : ∃ q, q = n - 1 - c := ⟨_, rfl⟩
        have e10 : (p : Int) - (c : Int) = (q : Int) := by omega
        have e11 : IntKind.i64.wrap (q : Int) = (q : Int) := by rw [IntKind.wrap_i64]; omega
        have hqN : q < N := by omega
        have HD := holds_again HH.out HS.out k
        obtain ⟨x, hx⟩ : ∃ x, d[q]! = x := ⟨_, rfl⟩
        obtain ⟨y, hy⟩ : ∃ y, d[c]! = y := ⟨_, rfl⟩
        obtain ⟨cq, _⟩ := HD q (by have := HDN.out; omega)
        obtain ⟨cc, _⟩ := HD c (by have := HDN.out; omega)
        rw [hx] at cq
        rw [hy] at cc
        have cq' : ((putRow encN w blk off d).drewN k).cell? ⟨blk, off + q, none⟩ = some (.float .f32 x.1) := cq
        have cc' : ((putRow encN w blk off d).drewN k).cell? ⟨blk, off + c, none⟩ = some (.float .f32 y.1) := cc
        have z1 : (q : Int) < (N : Int) := by omega
        have z2 : (c : Int) < (N : Int) := by omega
        have HX := Lib.hid hx
        have HY := Lib.hid hy
        have HQ := Lib.hid hq
        clear HD cq cc hx hy hc hq q1 q2
        generalize hwq : (putRow encN w blk off d).drewN k = wq at cq' cc' ⊢
        have HWQ := Lib.hid hwq
        clear hwq
        have HCL : Hid (∀ w, Calls Try.prog 56 #[.float .f32 x.1, .float .f32 y.1] w fun e w' => e = .returned (.int .i64 (zN x y)) ∧ w' = w) := fun w => cmpF_any x y w
        have hz0 := zN_neg x y
        cases hl : ltN x y
        · have HL := Lib.hid hl
          rw [hl] at hz0
          generalize zN x y = z at HCL hz0
          have hz1 : ¬ z < 0 := of_decide_eq_false hz0
          have hz2 : (!decide (z < 0)) = true := by rw [hz0]; rfl
          clear hl hz0
          go_wp2_with fail
          go_quiet_o (exact Calls.quiet_of_same (HCL.out _))
          go_wp2_with fail
          go_roundg (r - (c + 1))
          case measure => omega
          case rel =>
            have q3 := HQ.out
            exact ⟨c + 1, r, _, by go_num, rfl, by omega, by omega, by omega, by omega, (show _ ∧ _ from ⟨.inr (by rw [Nat.add_sub_cancel, show n - (c + 1) = q by omega, HX.out, HY.out]; exact HL.out), HI.out.2⟩), by rw [← HWQ.out, World.drewN_drewN]⟩
        · have HL := Lib.hid hl
          rw [hl] at hz0
          generalize zN x y = z at HCL hz0
          have hz1 : z < 0 := of_decide_eq_true hz0
          have hz2 : (!decide (z < 0)) = false := by rw [hz0]; rfl
          clear hl hz0
          go_wp2_with fail
          go_quiet_o (exact Calls.quiet_of_same (HCL.out _))
          go_wp2_with fail
          go_roundg (c - s)
          case measure => omega
          case rel =>
            have q3 := HQ.out
            exact ⟨s, c, _, rfl, rfl, by omega, by omega, by omega, by omega, (show _ ∧ _ from ⟨HI.out.1, .inr (by rw [← q3, HX.out, HY.out]; exact HL.out)⟩), by rw [← HWQ.out, World.drewN_drewN]⟩
      · have hltz : ¬ (s : Int) < (r : Int) := by omega
        obtain rfl : s = r := by omega
        obtain ⟨t, ht⟩ : ∃ t, t = n - s := ⟨_, rfl⟩
        have e12 : (n : Int) - (s : Int) = (t : Int) := by omega
        have e13 : IntKind.i64.wrap (t : Int) = (t : Int) := by rw [IntKind.wrap_i64]; omega
        have ht1 : m ≤ t := by omega
        have ht2 : t ≤ b := by omega
        have ht3 : mid ≤ t := by omega
        have hsm : s ≤ m := by omega
        have hsmid : s ≤ mid := by omega
        have has : a ≤ s := by omega
        have HST : Hid (t + s = mid + m) := by show _ = _; omega
        have HT := Lib.hid ht
        have HSPL : Hid (∀ e : Array NB, (∀ k, e[k]! = rotG d s m t k) → SortedIn ltN a s e ∧ SortedIn ltN s mid e ∧ SortedIn ltN mid t e ∧ SortedIn ltN t b e ∧ (∀ i j, a ≤ i → i < mid → mid ≤ j → j < b → ltN e[j]! e[i]! = false)) := by
          show ∀ _, _
          intro e he
          refine merge_split swo_ltN HL0.out HR.out has hsm ht1 ht2 HST.out (fun h1 h2 => ?_) (fun h1 h2 => ?_) he
          · rcases HI.out.1 with h3 | h3
            · exfalso; omega
            · rw [HT.out]; exact h3
          · rcases HI.out.2 with h3 | h3
            · exfalso; omega
            · rw [show t - 1 = n - 1 - s by have := HT.out; omega]; exact h3
        clear q1 q2 ht
        have hsteq := HST.out
        by_cases hc1 : s < m
        · by_cases hc2 : m < t
          · have hr1 : mid < t := by omega
            have hl2 : s < mid := by omega
            by_cases hl1 : a < s
            · by_cases hr2 : t < b
              · -- turned, both
                have hf0 : (s : Int) < (m : Int) := by omega
                have hf1 : (m : Int) < (t : Int) := by omega
                have hf2 : (a : Int) < (s : Int) := by omega
                have hf3 : (s : Int) < (mid : Int) := by omega
                have hf4 : (mid : Int) < (t : Int) := by omega
                have hf5 : (t : Int) < (b : Int) := by omega
                go_wp2_with fail
                refine (rotate_at blk off cap N s m t d0 d k w HH.out HS.out HN.out hc1 hc2 (by omega) hsz).mono ?_
                rintro e0 w1 ⟨rfl, e, k1, rfl, hsz1, hp1, hg1⟩
                have HE := Lib.hid (HSPL.out e hg1)
                have HP1 := Lib.hid hp1
                have HZ1 : Hid (e.size = d0.size) := (show Hid _ from hsz1.trans HN.out.symm)
                clear hsz1 hp1 hg1
                go_wp2_with fail
                refine (HIH.out a s mid e k1 (by omega) hl1 hl2 (by omega) HZ1.out HE.out.1 HE.out.2.1).mono ?_
                rintro e0 w2 ⟨rfl, e1, k2, rfl, hsz2, hp2⟩
                have HPL := Lib.hid hp2
                have HZ2 : Hid (e1.size = d0.size) := (show Hid _ from hsz2.trans HN.out.symm)
                clear hsz2 hp2
                go_wp2_with fail
                refine (HIH.out mid t b e1 k2 (by omega) hr1 hr2 hb HZ2.out (sorted_out HPL.out.1 HE.out.2.2.1 (Nat.le_refl _)) (sorted_out HPL.out.1 HE.out.2.2.2.1 ht3)).mono ?_
                rintro e0 w3 ⟨rfl, e2, k3, rfl, hsz3, hp3⟩
                have HPR := Lib.hid hp3
                have HZ3 : Hid (e2.size = d0.size) := (show Hid _ from hsz3.trans HN.out.symm)
                clear hsz3 hp3
                go_wp2_with fail
                go_end0
                have hsd := HDN.out
                have hse := HZ1.out
                have hs0 := HN.out
                have hj := merge_join (lt := ltN) (by omega : a ≤ mid) (by omega : mid ≤ b) (by omega : b ≤ e.size) HE.out.2.2.2.2 HPL.out.1 HPL.out.2 HPR.out.1 HPR.out.2
                exact ⟨rfl, e2, k3, rfl, HZ3.out.trans hs0, permIn_trans _ _ _ _ _ (permIn_mono d e s t a b has ht2 (by omega) HP1.out) hj.2, hj.1⟩
              · -- turned, left
                have hf0 : (s : Int) < (m : Int) := by omega
                have hf1 : (m : Int) < (t : Int) := by omega
                have hf2 : (a : Int) < (s : Int) := by omega
                have hf3 : (s : Int) < (mid : Int) := by omega
                have hf4 : (mid : Int) < (t : Int) := by omega
                have hf5 : ¬ (t : Int) < (b : Int) := by omega
                go_wp2_with fail
                refine (rotate_at blk off cap N s m t d0 d k w HH.out HS.out HN.out hc1 hc2 (by omega) hsz).mono ?_
                rintro e0 w1 ⟨rfl, e, k1, rfl, hsz1, hp1, hg1⟩
                have HE := Lib.hid (HSPL.out e hg1)
                have HP1 := Lib.hid hp1
                have HZ1 : Hid (e.size = d0.size) := (show Hid _ from hsz1.trans HN.out.symm)
                clear hsz1 hp1 hg1
                go_wp2_with fail
                refine (HIH.out a s mid e k1 (by omega) hl1 hl2 (by omega) HZ1.out HE.out.1 HE.out.2.1).mono ?_
                rintro e0 w2 ⟨rfl, e1, k2, rfl, hsz2, hp2⟩
                have HPL := Lib.hid hp2
                have HZ2 : Hid (e1.size = d0.size) := (show Hid _ from hsz2.trans HN.out.symm)
                clear hsz2 hp2
                go_wp2_with fail
                go_end0
                have hsd := HDN.out
                have hse := HZ1.out
                have hs0 := HN.out
                have hj := merge_join (lt := ltN) (by omega : a ≤ mid) (by omega : mid ≤ b) (by omega : b ≤ e.size) HE.out.2.2.2.2 HPL.out.1 HPL.out.2 (show PermIn mid b e1 e1 ∧ SortedIn ltN mid b e1 from ⟨permIn_refl _ _ _, sorted_left (sorted_out HPL.out.1 HE.out.2.2.1 (Nat.le_refl _)) (sorted_out HPL.out.1 HE.out.2.2.2.1 ht3) ht3 ht2 (by omega)⟩).1 (show PermIn mid b e1 e1 ∧ SortedIn ltN mid b e1 from ⟨permIn_refl _ _ _, sorted_left (sorted_out HPL.out.1 HE.out.2.2.1 (Nat.le_refl _)) (sorted_out HPL.out.1 HE.out.2.2.2.1 ht3) ht3 ht2 (by omega)⟩).2
                exact ⟨rfl, e1, k2, rfl, HZ2.out.trans hs0, permIn_trans _ _ _ _ _ (permIn_mono d e s t a b has ht2 (by omega) HP1.out) hj.2, hj.1⟩
            · by_cases hr2 : t < b
              · -- turned, right
                have hf0 : (s : Int) < (m : Int) := by omega
                have hf1 : (m : Int) < (t : Int) := by omega
                have hf2 : ¬ (a : Int) < (s : Int) := by omega
                have hf3 : (mid : Int) < (t : Int) := by omega
                have hf4 : (t : Int) < (b : Int) := by omega
                go_wp2_with fail
                refine (rotate_at blk off cap N s m t d0 d k w HH.out HS.out HN.out hc1 hc2 (by omega) hsz).mono ?_
                rintro e0 w1 ⟨rfl, e, k1, rfl, hsz1, hp1, hg1⟩
                have HE := Lib.hid (HSPL.out e hg1)
                have HP1 := Lib.hid hp1
                have HZ1 : Hid (e.size = d0.size) := (show Hid _ from hsz1.trans HN.out.symm)
                clear hsz1 hp1 hg1
                go_wp2_with fail
                refine (HIH.out mid t b e k1 (by omega) hr1 hr2 hb HZ1.out (sorted_out (show PermIn a mid e e ∧ SortedIn ltN a mid e from ⟨permIn_refl _ _ _, sorted_left HE.out.1 HE.out.2.1 has hsmid (by omega)⟩).1 HE.out.2.2.1 (Nat.le_refl _)) (sorted_out (show PermIn a mid e e ∧ SortedIn ltN a mid e from ⟨permIn_refl _ _ _, sorted_left HE.out.1 HE.out.2.1 has hsmid (by omega)⟩).1 HE.out.2.2.2.1 ht3)).mono ?_
                rintro e0 w3 ⟨rfl, e2, k3, rfl, hsz3, hp3⟩
                have HPR := Lib.hid hp3
                have HZ3 : Hid (e2.size = d0.size) := (show Hid _ from hsz3.trans HN.out.symm)
                clear hsz3 hp3
                go_wp2_with fail
                go_end0
                have hsd := HDN.out
                have hse := HZ1.out
                have hs0 := HN.out
                have hj := merge_join (lt := ltN) (by omega : a ≤ mid) (by omega : mid ≤ b) (by omega : b ≤ e.size) HE.out.2.2.2.2 (show PermIn a mid e e ∧ SortedIn ltN a mid e from ⟨permIn_refl _ _ _, sorted_left HE.out.1 HE.out.2.1 has hsmid (by omega)⟩).1 (show PermIn a mid e e ∧ SortedIn ltN a mid e from ⟨permIn_refl _ _ _, sorted_left HE.out.1 HE.out.2.1 has hsmid (by omega)⟩).2 HPR.out.1 HPR.out.2
                exact ⟨rfl, e2, k3, rfl, HZ3.out.trans hs0, permIn_trans _ _ _ _ _ (permIn_mono d e s t a b has ht2 (by omega) HP1.out) hj.2, hj.1⟩
              · -- turned, none
                have hf0 : (s : Int) < (m : Int) := by omega
                have hf1 : (m : Int) < (t : Int) := by omega
                have hf2 : ¬ (a : Int) < (s : Int) := by omega
                have hf3 : (mid : Int) < (t : Int) := by omega
                have hf4 : ¬ (t : Int) < (b : Int) := by omega
                go_wp2_with fail
                refine (rotate_at blk off cap N s m t d0 d k w HH.out HS.out HN.out hc1 hc2 (by omega) hsz).mono ?_
                rintro e0 w1 ⟨rfl, e, k1, rfl, hsz1, hp1, hg1⟩
                have HE := Lib.hid (HSPL.out e hg1)
                have HP1 := Lib.hid hp1
                have HZ1 : Hid (e.size = d0.size) := (show Hid _ from hsz1.trans HN.out.symm)
                clear hsz1 hp1 hg1
                go_wp2_with fail
                go_end0
                have hsd := HDN.out
                have hse := HZ1.out
                have hs0 := HN.out
                have hj := merge_join (lt := ltN) (by omega : a ≤ mid) (by omega : mid ≤ b) (by omega : b ≤ e.size) HE.out.2.2.2.2 (show PermIn a mid e e ∧ SortedIn ltN a mid e from ⟨permIn_refl _ _ _, sorted_left HE.out.1 HE.out.2.1 has hsmid (by omega)⟩).1 (show PermIn a mid e e ∧ SortedIn ltN a mid e from ⟨permIn_refl _ _ _, sorted_left HE.out.1 HE.out.2.1 has hsmid (by omega)⟩).2 (show PermIn mid b e e ∧ SortedIn ltN mid b e from ⟨permIn_refl _ _ _, sorted_left (sorted_out (show PermIn a mid e e ∧ SortedIn ltN a mid e from ⟨permIn_refl _ _ _, sorted_left HE.out.1 HE.out.2.1 has hsmid (by omega)⟩).1 HE.out.2.2.1 (Nat.le_refl _)) (sorted_out (show PermIn a mid e e ∧ SortedIn ltN a mid e from ⟨permIn_refl _ _ _, sorted_left HE.out.1 HE.out.2.1 has hsmid (by omega)⟩).1 HE.out.2.2.2.1 ht3) ht3 ht2 (by omega)⟩).1 (show PermIn mid b e e ∧ SortedIn ltN mid b e from ⟨permIn_refl _ _ _, sorted_left (sorted_out (show PermIn a mid e e ∧ SortedIn ltN a mid e from ⟨permIn_refl _ _ _, sorted_left HE.out.1 HE.out.2.1 has hsmid (by omega)⟩).1 HE.out.2.2.1 (Nat.le_refl _)) (sorted_out (show PermIn a mid e e ∧ SortedIn ltN a mid e from ⟨permIn_refl _ _ _, sorted_left HE.out.1 HE.out.2.1 has hsmid (by omega)⟩).1 HE.out.2.2.2.1 ht3) ht3 ht2 (by omega)⟩).2
                exact ⟨rfl, e, k1, rfl, HZ1.out.trans hs0, permIn_trans _ _ _ _ _ (permIn_mono d e s t a b has ht2 (by omega) HP1.out) hj.2, hj.1⟩
          · have hr1 : mid < t := by omega
            have hr2 : t < b := by omega
            have hf0 : (s : Int) < (m : Int) := by omega
            have hf1 : ¬ (m : Int) < (t : Int) := by omega
            have hf2 : (a : Int) < (s : Int) := by omega
            have hf3 : ¬ (s : Int) < (mid : Int) := by omega
            have hf4 : (mid : Int) < (t : Int) := by omega
            have hf5 : (t : Int) < (b : Int) := by omega
            have HE := Lib.hid (HSPL.out d (fun q => rot_none hsm ht1 (by omega) q))
            have HPL : Hid (PermIn a mid d d ∧ SortedIn ltN a mid d) := ⟨permIn_refl _ _ _, sorted_left HE.out.1 HE.out.2.1 has hsmid (by omega)⟩
            go_wp2_with fail
            refine (HIH.out mid t b d k (by omega) hr1 hr2 hb HS.out (sorted_out HPL.out.1 HE.out.2.2.1 (Nat.le_refl _)) (sorted_out HPL.out.1 HE.out.2.2.2.1 ht3)).mono ?_
            rintro e0 w3 ⟨rfl, e2, k3, rfl, hsz3, hp3⟩
            have HPR := Lib.hid hp3
            have HZ3 : Hid (e2.size = d0.size) := (show Hid _ from hsz3.trans HN.out.symm)
            clear hsz3 hp3
            go_wp2_with fail
            go_end0
            have hsd := HDN.out
            have hse := HS.out
            have hs0 := HN.out
            have hj := merge_join (lt := ltN) (by omega : a ≤ mid) (by omega : mid ≤ b) (by omega : b ≤ d.size) HE.out.2.2.2.2 HPL.out.1 HPL.out.2 HPR.out.1 HPR.out.2
            exact ⟨rfl, e2, k3, rfl, HZ3.out.trans hs0, permIn_trans _ _ _ _ _ (permIn_refl d a b) hj.2, hj.1⟩
        · have hl1 : a < s := by omega
          by_cases hl2 : s < mid
          · -- not turned, left
            have hf0 : ¬ (s : Int) < (m : Int) := by omega
            have hf1 : (a : Int) < (s : Int) := by omega
            have hf2 : (s : Int) < (mid : Int) := by omega
            have hf3 : ¬ (mid : Int) < (t : Int) := by omega
            have HE := Lib.hid (HSPL.out d (fun q => rot_none hsm ht1 (by omega) q))
            go_wp2_with fail
            refine (HIH.out a s mid d k (by omega) hl1 hl2 (by omega) HS.out HE.out.1 HE.out.2.1).mono ?_
            rintro e0 w2 ⟨rfl, e1, k2, rfl, hsz2, hp2⟩
            have HPL := Lib.hid hp2
            have HZ2 : Hid (e1.size = d0.size) := (show Hid _ from hsz2.trans HN.out.symm)
            clear hsz2 hp2
            go_wp2_with fail
            go_end0
            have hsd := HDN.out
            have hse := HS.out
            have hs0 := HN.out
            have hj := merge_join (lt := ltN) (by omega : a ≤ mid) (by omega : mid ≤ b) (by omega : b ≤ d.size) HE.out.2.2.2.2 HPL.out.1 HPL.out.2 (show PermIn mid b e1 e1 ∧ SortedIn ltN mid b e1 from ⟨permIn_refl _ _ _, sorted_left (sorted_out HPL.out.1 HE.out.2.2.1 (Nat.le_refl _)) (sorted_out HPL.out.1 HE.out.2.2.2.1 ht3) ht3 ht2 (by omega)⟩).1 (show PermIn mid b e1 e1 ∧ SortedIn ltN mid b e1 from ⟨permIn_refl _ _ _, sorted_left (sorted_out HPL.out.1 HE.out.2.2.1 (Nat.le_refl _)) (sorted_out HPL.out.1 HE.out.2.2.2.1 ht3) ht3 ht2 (by omega)⟩).2
            exact ⟨rfl, e1, k2, rfl, HZ2.out.trans hs0, permIn_trans _ _ _ _ _ (permIn_refl d a b) hj.2, hj.1⟩
          · -- not turned, none
            have hf0 : ¬ (s : Int) < (m : Int) := by omega
            have hf1 : (a : Int) < (s : Int) := by omega
            have hf2 : ¬ (s : Int) < (mid : Int) := by omega
            have hf3 : ¬ (mid : Int) < (t : Int) := by omega
            have HE := Lib.hid (HSPL.out d (fun q => rot_none hsm ht1 (by omega) q))
            have HPL : Hid (PermIn a mid d d ∧ SortedIn ltN a mid d) := ⟨permIn_refl _ _ _, sorted_left HE.out.1 HE.out.2.1 has hsmid (by omega)⟩
            go_wp2_with fail
            go_end0
            have hsd := HDN.out
            have hse := HS.out
            have hs0 := HN.out
            have hj := merge_join (lt := ltN) (by omega : a ≤ mid) (by omega : mid ≤ b) (by omega : b ≤ d.size) HE.out.2.2.2.2 HPL.out.1 HPL.out.2 (show PermIn mid b d d ∧ SortedIn ltN mid b d from ⟨permIn_refl _ _ _, sorted_left (sorted_out HPL.out.1 HE.out.2.2.1 (Nat.le_refl _)) (sorted_out HPL.out.1 HE.out.2.2.2.1 ht3) ht3 ht2 (by omega)⟩).1 (show PermIn mid b d d ∧ SortedIn ltN mid b d from ⟨permIn_refl _ _ _, sorted_left (sorted_out HPL.out.1 HE.out.2.2.1 (Nat.le_refl _)) (sorted_out HPL.out.1 HE.out.2.2.2.1 ht3) ht3 ht2 (by omega)⟩).2
            exact ⟨rfl, d, k, rfl, HS.out.trans hs0, permIn_trans _ _ _ _ _ (permIn_refl d a b) hj.2, hj.1⟩

theorem symMerge_all (blk off cap N : Nat) (d0 : Array NB) (w : World) (hH : Holds encN w blk off d0) (hN : d0.size = N) (hsz : N < 4611686018427387904) : ∀ L, MrgIH blk off cap N L d0 w
  | 0 => fun a m b d k0 h => absurd h (Nat.not_lt_zero _)
  | L + 1 => fun a m b d k0 h ham hmb hb hs hL hR => by
    have ih := symMerge_all blk off cap N d0 w hH hN hsz L
    by_cases h1 : m = a + 1
    · exact symMerge_c1 blk off cap N a m b d0 d k0 w hH hs hN h1 hmb hb hsz hR
    · by_cases h2 : b = m + 1
      · exact symMerge_c2 blk off cap N a m b d0 d k0 w hH hs hN ham h1 h2 hb hsz hL
      · exact symMerge_c3 blk off cap N a m b d0 d k0 w hH hs hN ham hmb hb hsz h1 h2 hL hR (fun a' m' b' d' k' h' => ih a' m' b' d' k' (by omega))
end Go.Proofs.Ytonmdkhfongmhaa
