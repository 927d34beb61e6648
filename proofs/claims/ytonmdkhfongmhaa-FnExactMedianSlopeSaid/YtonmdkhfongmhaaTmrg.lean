/- Merging in place: the library's walk at floats. -/
import Derived.Test.YtonmdkhfongmhaaTrot
namespace Go.Proofs.Ytonmdkhfongmhaa
open Go.RowKit Go.Lib Go.Sort

/-- One step of moving the first element to the right. -/
theorem rot_left_step {d dk : Array NB} {a kk b : Nat} (hsz : dk.size = d.size) (hb : b ≤ d.size) (h1 : a ≤ kk) (h2 : kk + 1 < b) (hp : PermIn a b d dk) (hg : ∀ q, dk[q]! = rotG d a (a + 1) (kk + 1) q) :
    PermIn a b d (swp dk kk (kk + 1)) ∧ ∀ q, (swp dk kk (kk + 1))[q]! = rotG d a (a + 1) (kk + 1 + 1) q := by
  refine ⟨permIn_trans _ _ _ _ _ hp (swp_permIn _ a b kk (kk + 1) (by omega) (by omega) (by omega) (by omega) (by omega)), fun q => ?_⟩
  rw [swp_get dk (by omega) (by omega), hg, hg, hg]
  unfold rotG
  repeat' split
  all_goals first | (exfalso; omega) | rfl | (congr 1; omega)
theorem rot_right_step {d dk : Array NB} {a kk m i b : Nat} (hsz : dk.size = d.size) (hb : b ≤ d.size) (h0 : a ≤ i) (h1 : i < kk) (h2 : kk ≤ m) (h3 : m < b) (hp : PermIn a b d dk) (hg : ∀ q, dk[q]! = rotG d kk m (m + 1) q) :
    PermIn a b d (swp dk kk (kk - 1)) ∧ ∀ q, (swp dk kk (kk - 1))[q]! = rotG d (kk - 1) m (m + 1) q := by
  refine ⟨permIn_trans _ _ _ _ _ hp (swp_permIn _ a b kk (kk - 1) (by omega) (by omega) (by omega) (by omega) (by omega)), fun q => ?_⟩
  rw [swp_get dk (by omega) (by omega), hg, hg, hg]
  unfold rotG
  repeat' split
  all_goals first | (exfalso; omega) | rfl | (congr 1; omega)

set_option maxHeartbeats 4000000 in
set_option maxRecDepth 1000000 in
theorem symMerge_c1 (blk off cap N a m b : Nat) (d0 d : Array NB) (k0 : Nat) (w : World) (hH : Holds encN w blk off d0) (hs : d.size = d0.size) (hN : d0.size = N) (hm : m = a + 1) (hmb : m < b) (hb : b ≤ N) (hsz : N < 4611686018427387904)
    (hR : SortedIn ltN m b d) :
    Calls Try.prog 114 #[.slice (some ⟨blk, off, none⟩) N cap, .int .i64 a, .int .i64 m, .int .i64 b, .func (.func 56) #[] #[]] ((putRow encN w blk off d).drewN k0)
      (RetPut w blk off N (fun d' => PermIn a b d d' ∧ SortedIn ltN a b d')) := by
  have mixed : Try.prog.follows .mixedOrders = true := by kernel_rfl
  have hst : ∀ (x : Nat) (a : Addr) (m : Mode) (w : World), Sem.run Try.prog (store a (.float .f32 x) m) w = stored Try.prog w a (.float .f32 x) m := fun x a m w => run_store Try.prog w a _ m rfl
  have HH := Lib.hid hH
  have HR := Lib.hid hR
  have HS := Lib.hid hs
  have HN := Lib.hid hN
  have hdN : d.size = N := by omega
  have HDN := Lib.hid hdN
  clear hH hR hs hN hdN
  have e0 : (m : Int) - (a : Int) = 1 := by omega
  have HM := Lib.hid hm
  have hma : a < m := by omega
  clear hm
  go_enter Try.func114, Try.ntmps114
  go_wp2_with fail
  go_loopg [10, 11] (b - m) (fun g vi vj wr => ∃ (i j k : Nat), vi = .int .i64 i ∧ vj = .int .i64 j ∧ m ≤ i ∧ i ≤ j ∧ j ≤ b ∧ j - i ≤ g ∧ Hid ((i = m ∨ ltN d[i - 1]! d[a]! = true) ∧ (j = b ∨ ltN d[j]! d[a]! = false)) ∧ wr = (putRow encN w blk off d).drewN k)
  case atStart => exact ⟨m, b, k0, rfl, rfl, by omega, by omega, by omega, by omega, (show _ ∧ _ from ⟨.inl rfl, .inl rfl⟩), rfl⟩
  case round =>
    obtain ⟨i, j, k, rfl, rfl, hi, hij, hjb, hg, HI, rfl⟩ := hrel
    by_cases hlt : i < j
    · have hltz : (i : Int) < (j : Int) := by omega
      obtain ⟨h, hh⟩ : ∃ h, h = (i + j) / 2 := ⟨_, rfl⟩
      have hmid : ((i : Int) + (j : Int)) / 2 = (h : Int) := by omega
      have hih : i ≤ h := by omega
      have hhj : h < j := by omega
      have HD := holds_again HH.out HS.out k
      obtain ⟨x, hx⟩ : ∃ x, d[h]! = x := ⟨_, rfl⟩
      obtain ⟨y, hy⟩ : ∃ y, d[a]! = y := ⟨_, rfl⟩
      obtain ⟨ch, _⟩ := HD h (by have := HDN.out; omega)
      obtain ⟨ca, _⟩ := HD a (by have := HDN.out; omega)
      rw [hx] at ch
      rw [hy] at ca
      have ch' : ((putRow encN w blk off d).drewN k).cell? ⟨blk, off + h, none⟩ = some (.float .f32 x.1) := ch
      have ca' : ((putRow encN w blk off d).drewN k).cell? ⟨blk, off + a, none⟩ = some (.float .f32 y.1) := ca
      have z1 : (h : Int) < (N : Int) := by omega
      have z2 : (a : Int) < (N : Int) := by omega
      have HX := Lib.hid hx
      have HY := Lib.hid hy
      clear HD ch ca hx hy hh
      generalize hwq : (putRow encN w blk off d).drewN k = wq at ch' ca' ⊢
      have HWQ := Lib.hid hwq
      clear hwq
      have HCL : Hid (∀ w, Calls Try.prog 56 #[.float .f32 x.1, .float .f32 y.1] w fun e w' => e = .returned (.int .i64 (zN x y)) ∧ w' = w) := fun w => cmpF_any x y w
      have hz0 := zN_neg x y
      cases hl : ltN x y
      · have HL := Lib.hid hl
        rw [hl] at hz0
        generalize zN x y = z at HCL hz0
        have hz1 : ¬ z < 0 := of_decide_eq_false hz0
        clear hl hz0
        go_wp2_with fail
        go_quiet_o (exact Calls.quiet_of_same (HCL.out _))
        go_wp2_with fail
        go_roundg (h - i)
        case measure => omega
        case rel => exact ⟨i, h, _, rfl, rfl, hi, by omega, by omega, by omega, (show _ ∧ _ from ⟨HI.out.1, .inr (by rw [HX.out, HY.out]; exact HL.out)⟩), by rw [← HWQ.out, World.drewN_drewN]⟩
      · have HL := Lib.hid hl
        rw [hl] at hz0
        generalize zN x y = z at HCL hz0
        have hz1 : z < 0 := of_decide_eq_true hz0
        clear hl hz0
        go_wp2_with fail
        go_quiet_o (exact Calls.quiet_of_same (HCL.out _))
        go_wp2_with fail
        go_roundg (j - (h + 1))
        case measure => omega
        case rel => exact ⟨h + 1, j, _, by go_num, rfl, by omega, by omega, by omega, by omega, (show _ ∧ _ from ⟨.inr (by rw [Nat.add_sub_cancel, HX.out, HY.out]; exact HL.out), HI.out.2⟩), by rw [← HWQ.out, World.drewN_drewN]⟩
    · have hltz : ¬ (i : Int) < (j : Int) := by omega
      obtain rfl : i = j := by omega
      have e1 : (i : Int) - 1 = ((i - 1 : Nat) : Int) := by omega
      go_wp2_with fail
      go_loopg [13] (i - 1 - a) (fun g vk wr => ∃ (kk k : Nat) (dk : Array NB), vk = .int .i64 kk ∧ a ≤ kk ∧ kk ≤ i - 1 ∧ i - 1 - kk ≤ g ∧ dk.size = d0.size ∧ Hid (PermIn a b d dk ∧ ∀ q, dk[q]! = rotG d a (a + 1) (kk + 1) q) ∧ wr = (putRow encN w blk off dk).drewN k)
      case atStart =>
        have h0 : PermIn a b d d ∧ ∀ q, d[q]! = rotG d a (a + 1) (a + 1) q := by
          refine ⟨permIn_refl d a b, fun q => ?_⟩
          unfold rotG
          repeat' split
          all_goals first | (exfalso; omega) | rfl | (congr 1; omega)
        exact ⟨a, k, d, rfl, by omega, by omega, by omega, HS.out, h0, rfl⟩
      case round =>
        obtain ⟨kk, k, dk, rfl, hk1, hk2, hg2, hsk, HG, rfl⟩ := hrel
        by_cases hlt2 : kk < i - 1
        · have hltz2 : (kk : Int) < ((i - 1 : Nat) : Int) := by omega
          have hltz3 : (kk : Int) < (i : Int) - 1 := by omega
          have hHj := holds_putRow encN w blk off d0 dk HH.out hsk
          obtain ⟨q, hq⟩ : ∃ q, q = kk + 1 := ⟨_, rfl⟩
          obtain ⟨xp, hxp⟩ : ∃ x, dk[kk]! = x := ⟨_, rfl⟩
          obtain ⟨xq, hxq⟩ : ∃ x, dk[q]! = x := ⟨_, rfl⟩
          have hN1 : dk.size = N := by have := HN.out; omega
          obtain ⟨cp, fp⟩ := hHj kk (by omega)
          obtain ⟨cq, fq⟩ := hHj q (by omega)
          rw [hxp] at cp
          rw [hxq] at cq
          have e2 : IntKind.i64.wrap ((kk : Int) + 1) = (q : Int) := by rw [IntKind.wrap_i64]; omega
          have e3 : (kk : Int) + 1 = (q : Int) := by omega
          have z1 : (kk : Int) < (N : Int) := by omega
          have z2 : (q : Int) < (N : Int) := by omega
          have hpq : kk ≠ q := by omega
          have cp' : ((putRow encN w blk off dk).drewN k).cell? ⟨blk, off + kk, none⟩ = some (.float .f32 xp.1) := cp
          have cq' : ((putRow encN w blk off dk).drewN k).cell? ⟨blk, off + q, none⟩ = some (.float .f32 xq.1) := cq
          have fp' : ((putRow encN w blk off dk).drewN k).frozen? ⟨blk, off + kk, none⟩ = false := fp
          have fq' : ((putRow encN w blk off dk).drewN k).frozen? ⟨blk, off + q, none⟩ = false := fq
          clear hHj cp cq fp fq
          generalize hwq : (putRow encN w blk off dk).drewN k = wq at cp' cq' fp' fq' ⊢
          have HWQ := Lib.hid hwq
          have HQ := Lib.hid hq
          have HSK := Lib.hid hsk
          have HN1 := Lib.hid hN1
          clear hwq hq hsk hN1
          go_wp2_with fail
          go_big_region_o
          all_goals go_wp2_with fail
          go_roundg (i - 1 - (kk + 1))
          case measure => omega
          case rel =>
            have s1 := HSK.out
            have s2 := HQ.out
            have s3 := HN1.out
            have s4 := HDN.out
            refine ⟨kk + 1, k + 1, swp dk kk (kk + 1), by first | rfl | go_num | (congr 1; omega), by omega, by omega, Nat.le_refl _, by rw [swp_size]; exact s1, rot_left_step (by omega) (by omega) hk1 (by omega) HG.out.1 HG.out.2, ?_⟩
            rw [← HWQ.out, ← hxp, ← hxq, ← s2]
            exact swap_worldC encN w blk off dk k kk q (by omega) (by omega)
        · have hltz2 : ¬ (kk : Int) < ((i - 1 : Nat) : Int) := by omega
          have hltz3 : ¬ (kk : Int) < (i : Int) - 1 := by omega
          have s5 := HM.out
          obtain rfl : kk = i - 1 := by omega
          have HRES : Hid (PermIn a b d dk ∧ SortedIn ltN a b dk) := by
            refine ⟨HG.out.1, merge_left swo_ltN (by rw [← s5]; exact HR.out) (by omega) hjb (by rw [← s5]; exact HI.out.1) HI.out.2 (fun q => ?_)⟩
            rw [HG.out.2 q, show i - 1 + 1 = i by omega]
          have hN1 : dk.size = N := by have := HN.out; omega
          have HN1 := Lib.hid hN1
          clear s5 hN1 hsk
          go_wp2_with fail
          go_end0
          exact ⟨rfl, dk, k, rfl, HN1.out, HRES.out⟩

set_option maxHeartbeats 4000000 in
set_option maxRecDepth 1000000 in
theorem symMerge_c2 (blk off cap N a m b : Nat) (d0 d : Array NB) (k0 : Nat) (w : World) (hH : Holds encN w blk off d0) (hs : d.size = d0.size) (hN : d0.size = N) (ham : a < m) (hm1 : m ≠ a + 1) (hbm : b = m + 1) (hb : b ≤ N) (hsz : N < 4611686018427387904)
    (hR : SortedIn ltN a m d) :
    Calls Try.prog 114 #[.slice (some ⟨blk, off, none⟩) N cap, .int .i64 a, .int .i64 m, .int .i64 b, .func (.func 56) #[] #[]] ((putRow encN w blk off d).drewN k0)
      (RetPut w blk off N (fun d' => PermIn a b d d' ∧ SortedIn ltN a b d')) := by
  have mixed : Try.prog.follows .mixedOrders = true := by kernel_rfl
  have hst : ∀ (x : Nat) (a : Addr) (m : Mode) (w : World), Sem.run Try.prog (store a (.float .f32 x) m) w = stored Try.prog w a (.float .f32 x) m := fun x a m w => run_store Try.prog w a _ m rfl
  have HH := Lib.hid hH
  have HR := Lib.hid hR
  have HS := Lib.hid hs
  have HN := Lib.hid hN
  have hdN : d.size = N := by omega
  have HDN := Lib.hid hdN
  clear hH hR hs hN hdN
  obtain ⟨p0, hp0⟩ : ∃ p0, p0 = m - a := ⟨_, rfl⟩
  have e0 : (m : Int) - (a : Int) = (p0 : Int) := by omega
  have e01 : ¬ (p0 : Int) = 1 := by omega
  have e02 : ((p0 : Int) == 1) = false := by simpa using e01
  have e03 : (b : Int) - (m : Int) = 1 := by omega
  have HM := Lib.hid hbm
  have hmb : m < b := by omega
  clear hm1 hbm hp0
  go_enter Try.func114, Try.ntmps114
  go_wp2_with fail
  go_loopg [14, 15] (m - a) (fun g vi vj wr => ∃ (i j k : Nat), vi = .int .i64 i ∧ vj = .int .i64 j ∧ a ≤ i ∧ i ≤ j ∧ j ≤ m ∧ j - i ≤ g ∧ Hid ((i = a ∨ ltN d[m]! d[i - 1]! = false) ∧ (j = m ∨ ltN d[m]! d[j]! = true)) ∧ wr = (putRow encN w blk off d).drewN k)
  case atStart => exact ⟨a, m, k0, rfl, rfl, by omega, by omega, by omega, by omega, (show _ ∧ _ from ⟨.inl rfl, .inl rfl⟩), rfl⟩
  case round =>
    obtain ⟨i, j, k, rfl, rfl, hi, hij, hjb, hg, HI, rfl⟩ := hrel
    by_cases hlt : i < j
    · have hltz : (i : Int) < (j : Int) := by omega
      obtain ⟨h, hh⟩ : ∃ h, h = (i + j) / 2 := ⟨_, rfl⟩
      have hmid : ((i : Int) + (j : Int)) / 2 = (h : Int) := by omega
      have hih : i ≤ h := by omega
      have hhj : h < j := by omega
      have HD := holds_again HH.out HS.out k
      obtain ⟨x, hx⟩ : ∃ x, d[m]! = x := ⟨_, rfl⟩
      obtain ⟨y, hy⟩ : ∃ y, d[h]! = y := ⟨_, rfl⟩
      obtain ⟨cm, _⟩ := HD m (by have := HDN.out; omega)
      obtain ⟨ch, _⟩ := HD h (by have := HDN.out; omega)
      rw [hx] at cm
      rw [hy] at ch
      have cm' : ((putRow encN w blk off d).drewN k).cell? ⟨blk, off + m, none⟩ = some (.float .f32 x.1) := cm
      have ch' : ((putRow encN w blk off d).drewN k).cell? ⟨blk, off + h, none⟩ = some (.float .f32 y.1) := ch
      have z1 : (h : Int) < (N : Int) := by omega
      have z2 : (m : Int) < (N : Int) := by omega
      have HX := Lib.hid hx
      have HY := Lib.hid hy
      clear HD cm ch hx hy hh
      generalize hwq : (putRow encN w blk off d).drewN k = wq at cm' ch' ⊢
      have HWQ := Lib.hid hwq
      clear hwq
      have HCL : Hid (∀ w, Calls Try.prog 56 #[.float .f32 x.1, .float .f32 y.1] w fun e w' => e = .returned (.int .i64 (zN x y)) ∧ w' = w) := fun w => cmpF_any x y w
      have hz0 := zN_neg x y
      cases hl : ltN x y
      · have HL := Lib.hid hl
        rw [hl] at hz0
        generalize zN x y = z at HCL hz0
        have hz1 : ¬ z < 0 := of_decide_eq_false hz0
        have hz2 : (!decide (z < 0)) = true := by rw [hz0]; rfl
        clear hl hz0
        go_wp2_with fail
        go_quiet_o (exact Calls.quiet_of_same (HCL.out _))
        go_wp2_with fail
        go_roundg (j - (h + 1))
        case measure => omega
        case rel => exact ⟨h + 1, j, _, by go_num, rfl, by omega, by omega, by omega, by omega, (show _ ∧ _ from ⟨.inr (by rw [Nat.add_sub_cancel, HX.out, HY.out]; exact HL.out), HI.out.2⟩), by rw [← HWQ.out, World.drewN_drewN]⟩
      · have HL := Lib.hid hl
        rw [hl] at hz0
        generalize zN x y = z at HCL hz0
        have hz1 : z < 0 := of_decide_eq_true hz0
        have hz2 : (!decide (z < 0)) = false := by rw [hz0]; rfl
        clear hl hz0
        go_wp2_with fail
        go_quiet_o (exact Calls.quiet_of_same (HCL.out _))
        go_wp2_with fail
        go_roundg (h - i)
        case measure => omega
        case rel => exact ⟨i, h, _, rfl, rfl, hi, by omega, by omega, by omega, (show _ ∧ _ from ⟨HI.out.1, .inr (by rw [HX.out, HY.out]; exact HL.out)⟩), by rw [← HWQ.out, World.drewN_drewN]⟩
    · have hltz : ¬ (i : Int) < (j : Int) := by omega
      obtain rfl : i = j := by omega
      go_wp2_with fail
      go_loopg [17] (m - i) (fun g vk wr => ∃ (kk k : Nat) (dk : Array NB), vk = .int .i64 kk ∧ i ≤ kk ∧ kk ≤ m ∧ kk - i ≤ g ∧ dk.size = d0.size ∧ Hid (PermIn a b d dk ∧ ∀ q, dk[q]! = rotG d kk m (m + 1) q) ∧ wr = (putRow encN w blk off dk).drewN k)
      case atStart =>
        have h0 : PermIn a b d d ∧ ∀ q, d[q]! = rotG d m m (m + 1) q := by
          refine ⟨permIn_refl d a b, fun q => ?_⟩
          unfold rotG
          repeat' split
          all_goals first | (exfalso; omega) | rfl | (congr 1; omega)
        exact ⟨m, k, d, rfl, by omega, by omega, by omega, HS.out, h0, rfl⟩
      case round =>
        obtain ⟨kk, k, dk, rfl, hk1, hk2, hg2, hsk, HG, rfl⟩ := hrel
        by_cases hlt2 : i < kk
        · have hltz2 : (i : Int) < (kk : Int) := by omega
          have hHj := holds_putRow encN w blk off d0 dk HH.out hsk
          obtain ⟨q, hq⟩ : ∃ q, q = kk - 1 := ⟨_, rfl⟩
          obtain ⟨xp, hxp⟩ : ∃ x, dk[kk]! = x := ⟨_, rfl⟩
          obtain ⟨xq, hxq⟩ : ∃ x, dk[q]! = x := ⟨_, rfl⟩
          have hN1 : dk.size = N := by have := HN.out; omega
          obtain ⟨cp, fp⟩ := hHj kk (by omega)
          obtain ⟨cq, fq⟩ := hHj q (by omega)
          rw [hxp] at cp
          rw [hxq] at cq
          have e3 : (kk : Int) - 1 = (q : Int) := by omega
          have e4 : IntKind.i64.wrap (q : Int) = (q : Int) := by rw [IntKind.wrap_i64]; omega
          have z1 : (kk : Int) < (N : Int) := by omega
          have z2 : (q : Int) < (N : Int) := by omega
          have hpq : kk ≠ q := by omega
          have cp' : ((putRow encN w blk off dk).drewN k).cell? ⟨blk, off + kk, none⟩ = some (.float .f32 xp.1) := cp
          have cq' : ((putRow encN w blk off dk).drewN k).cell? ⟨blk, off + q, none⟩ = some (.float .f32 xq.1) := cq
          have fp' : ((putRow encN w blk off dk).drewN k).frozen? ⟨blk, off + kk, none⟩ = false := fp
          have fq' : ((putRow encN w blk off dk).drewN k).frozen? ⟨blk, off + q, none⟩ = false := fq
          clear hHj cp cq fp fq
          generalize hwq : (putRow encN w blk off dk).drewN k = wq at cp' cq' fp' fq' ⊢
          have HWQ := Lib.hid hwq
          have HQ := Lib.hid hq
          have HSK := Lib.hid hsk
          have HN1 := Lib.hid hN1
          clear hwq hq hsk hN1
          go_wp2_with fail
          go_big_region_o
          all_goals go_wp2_with fail
          go_roundg (kk - 1 - i)
          case measure => omega
          case rel =>
            have s1 := HSK.out
            have s2 := HQ.out
            have s3 := HN1.out
            have s4 := HDN.out
            refine ⟨kk - 1, k + 1, swp dk kk (kk - 1), by first | rfl | go_num | (congr 1; omega), by omega, by omega, Nat.le_refl _, by rw [swp_size]; exact s1, rot_right_step (by omega) (by omega) hi hlt2 hk2 hmb HG.out.1 HG.out.2, ?_⟩
            rw [← HWQ.out, ← hxp, ← hxq, ← s2]
            exact swap_worldC encN w blk off dk k kk q (by omega) (by omega)
        · have hltz2 : ¬ (i : Int) < (kk : Int) := by omega
          have s5 := HM.out
          obtain rfl : i = kk := by omega
          have HRES : Hid (PermIn a b d dk ∧ SortedIn ltN a b dk) := by
            refine ⟨HG.out.1, ?_⟩
            rw [s5]
            exact merge_right swo_ltN HR.out hi hjb HI.out.1 HI.out.2 HG.out.2
          have hN1 : dk.size = N := by have := HN.out; omega
          have HN1 := Lib.hid hN1
          clear s5 hN1 hsk
          go_wp2_with fail
          go_end0
          exact ⟨rfl, dk, k, rfl, HN1.out, HRES.out⟩
end Go.Proofs.Ytonmdkhfongmhaa
