/- Ranges that change places, and a turn: the library's walks at floats. -/
import Derived.Test.YtonmdkhfongmhaaTinsF
import Derived.Test.YtonmdkhfongmhaaTsym
namespace Go.Proofs.Ytonmdkhfongmhaa
open Go.RowKit Go.Lib Go.Sort

set_option maxHeartbeats 4000000 in
set_option maxRecDepth 1000000 in
theorem swapRange_any (blk off cap a b n : Nat) (d : Array NB) (w : World) (hH : Holds encN w blk off d) (h1 : a + n ≤ b) (h2 : b + n ≤ d.size) (hsz : d.size < 4611686018427387904) :
    Calls Try.prog 153 #[.slice (some ⟨blk, off, none⟩) d.size cap, .int .i64 a, .int .i64 b, .int .i64 n, .func (.func 56) #[] #[]] w fun e w' =>
      e = .returned (.tuple #[]) ∧ ∃ k, w' = (putRow encN w blk off (swpR d a b n)).drewN k := by
  have mixed : Try.prog.follows .mixedOrders = true := by kernel_rfl
  have hst : ∀ (x : Nat) (a : Addr) (m : Mode) (w : World), Sem.run Try.prog (store a (.float .f32 x) m) w = stored Try.prog w a (.float .f32 x) m := fun x a m w => run_store Try.prog w a _ m rfl
  have HST : Hid (w = (putRow encN w blk off d).drewN 0) := (putRow_self encN w blk off d hH).symm
  have HH : Hid (Holds encN w blk off d) := hH
  clear hH
  go_enter Try.func153, Try.ntmps153
  go_wp2_with fail
  go_loopg [10] n (fun g vi wr => ∃ (i k : Nat), vi = .int .i64 i ∧ i ≤ n ∧ n - i ≤ g ∧ wr = (putRow encN w blk off (swpR d a b i)).drewN k)
  case atStart => exact ⟨0, 0, rfl, by omega, by omega, HST.out⟩
  case round =>
    obtain ⟨i, k, rfl, hin, hg, rfl⟩ := hrel
    by_cases hlt : i < n
    · have hltz : (i : Int) < (n : Int) := by omega
      have hsk : (swpR d a b i).size = d.size := swpR_size d a b i
      have hHj := holds_putRow encN w blk off d (swpR d a b i) HH.out hsk
      obtain ⟨p, hp⟩ : ∃ p, p = a + i := ⟨_, rfl⟩
      obtain ⟨q, hq⟩ : ∃ q, q = b + i := ⟨_, rfl⟩
      obtain ⟨xp, hxp⟩ : ∃ x, (swpR d a b i)[p]! = x := ⟨_, rfl⟩
      obtain ⟨xq, hxq⟩ : ∃ x, (swpR d a b i)[q]! = x := ⟨_, rfl⟩
      obtain ⟨cp, fp⟩ := hHj p (by omega)
      obtain ⟨cq, fq⟩ := hHj q (by omega)
      rw [hxp] at cp
      rw [hxq] at cq
      have e1 : IntKind.i64.wrap ((a : Int) + (i : Int)) = (p : Int) := by rw [IntKind.wrap_i64]; omega
      have e2 : IntKind.i64.wrap ((b : Int) + (i : Int)) = (q : Int) := by rw [IntKind.wrap_i64]; omega
      have e3 : (a : Int) + (i : Int) = (p : Int) := by omega
      have e4 : (b : Int) + (i : Int) = (q : Int) := by omega
      have z1 : (p : Int) < (d.size : Int) := by omega
      have z2 : (q : Int) < (d.size : Int) := by omega
      have hpq : p ≠ q := by omega
      have cp' : ((putRow encN w blk off (swpR d a b i)).drewN k).cell? ⟨blk, off + p, none⟩ = some (.float .f32 xp.1) := cp
      have cq' : ((putRow encN w blk off (swpR d a b i)).drewN k).cell? ⟨blk, off + q, none⟩ = some (.float .f32 xq.1) := cq
      have fp' : ((putRow encN w blk off (swpR d a b i)).drewN k).frozen? ⟨blk, off + p, none⟩ = false := fp
      have fq' : ((putRow encN w blk off (swpR d a b i)).drewN k).frozen? ⟨blk, off + q, none⟩ = false := fq
      clear hHj cp cq fp fq
      generalize hwq : (putRow encN w blk off (swpR d a b i)).drewN k = wq at cp' cq' fp' fq' ⊢
      have HWQ := Lib.hid hwq
      have HP := Lib.hid hp
      have HQ := Lib.hid hq
      have HSK := Lib.hid hsk
      clear hwq hsk hp hq
      go_wp2_with fail
      go_big_region_o
      all_goals go_wp2_with fail
      go_roundg (n - (i + 1))
      case measure => omega
      case rel =>
        refine ⟨i + 1, k + 1, by go_num, by omega, by omega, ?_⟩
        rw [← HWQ.out, ← hxp, ← hxq]
        show _ = (putRow encN w blk off (swp (swpR d a b i) (a + i) (b + i))).drewN (k + 1)
        rw [← HP.out, ← HQ.out]
        have s1 := HSK.out
        have s2 := HP.out
        have s3 := HQ.out
        exact swap_worldC encN w blk off (swpR d a b i) k p q (by omega) (by omega)
    · have hltz : ¬ (i : Int) < (n : Int) := by omega
      obtain rfl : i = n := by omega
      go_wp2_with fail
      go_end0
      exact ⟨rfl, k, rfl⟩

theorem putRow_again (w : World) (blk off k : Nat) (d d' : Array NB) (h : d'.size = d.size) : putRow encN ((putRow encN w blk off d).drewN k) blk off d' = (putRow encN w blk off d').drewN k := by
  show (putRow encN (putRow encN w blk off d) blk off d').drewN k = _
  rw [putRow_putRow encN w blk off d d' h]
theorem holds_again {w : World} {blk off : Nat} {d0 dk : Array NB} (h : Holds encN w blk off d0) (hs : dk.size = d0.size) (k : Nat) : Holds encN ((putRow encN w blk off dk).drewN k) blk off dk :=
  holds_putRow encN w blk off d0 dk h hs
/-- The list's memory holds this, and else nothing is touched. -/
def RetPut (w : World) (blk off : Nat) (N : Nat) (Q : Array NB → Prop) (e : Ending) (w' : World) : Prop :=
  e = .returned (.tuple #[]) ∧ ∃ (d' : Array NB) (k : Nat), w' = (putRow encN w blk off d').drewN k ∧ d'.size = N ∧ Q d'
theorem swapRange_at (blk off cap N a b n : Nat) (d0 dk : Array NB) (k : Nat) (w : World) (hH : Holds encN w blk off d0) (hs : dk.size = d0.size) (hN : d0.size = N) (h1 : a + n ≤ b) (h2 : b + n ≤ N) (hsz : N < 4611686018427387904) :
    Calls Try.prog 153 #[.slice (some ⟨blk, off, none⟩) N cap, .int .i64 a, .int .i64 b, .int .i64 n, .func (.func 56) #[] #[]] ((putRow encN w blk off dk).drewN k)
      (RetPut w blk off N (fun d' => d' = swpR dk a b n)) := by
  have hN2 : dk.size = N := by omega
  have h := swapRange_any blk off cap a b n dk ((putRow encN w blk off dk).drewN k) (holds_again hH hs k) h1 (by omega) (by omega)
  rw [hN2] at h
  refine h.mono ?_
  rintro e w' ⟨rfl, k', rfl⟩
  refine ⟨rfl, _, k + k', ?_, by rw [swpR_size]; exact hN2, rfl⟩
  rw [putRow_again w blk off k dk _ (swpR_size _ _ _ _), World.drewN_drewN]
theorem insF_at (blk off cap N a b : Nat) (d0 dk : Array NB) (k : Nat) (w : World) (hH : Holds encN w blk off d0) (hs : dk.size = d0.size) (hN : d0.size = N) (hab : a ≤ b) (hb : b ≤ N) (hsz : N < 4611686018427387904) :
    Calls Try.prog 113 #[.slice (some ⟨blk, off, none⟩) N cap, .int .i64 a, .int .i64 b, .func (.func 56) #[] #[]] ((putRow encN w blk off dk).drewN k)
      (RetPut w blk off N (fun d' => PermIn a b dk d' ∧ SortedIn ltN a b d')) := by
  have hN2 : dk.size = N := by omega
  have h := insF_any blk off cap a b dk ((putRow encN w blk off dk).drewN k) (holds_again hH hs k) hab (by omega) (by omega)
  have hI := insertionSort_holds (lt := ltN) swo_ltN dk a b hab (by omega)
  rw [hN2] at h
  refine h.mono ?_
  rintro e w' ⟨rfl, k', rfl⟩
  refine ⟨rfl, _, k + k', ?_, by rw [hI.1.1]; exact hN2, hI⟩
  rw [putRow_again w blk off k dk _ hI.1.1, World.drewN_drewN]

set_option maxHeartbeats 4000000 in
set_option maxRecDepth 1000000 in
theorem rotate_at (blk off cap N a m b : Nat) (d0 d : Array NB) (k0 : Nat) (w : World) (hH : Holds encN w blk off d0) (hs : d.size = d0.size) (hN : d0.size = N) (ham : a < m) (hmb : m < b) (hb : b ≤ N) (hsz : N < 4611686018427387904) :
    Calls Try.prog 139 #[.slice (some ⟨blk, off, none⟩) N cap, .int .i64 a, .int .i64 m, .int .i64 b, .func (.func 56) #[] #[]] ((putRow encN w blk off d).drewN k0)
      (RetPut w blk off N (fun d' => PermIn a b d d' ∧ ∀ k, d'[k]! = rotG d a m b k)) := by
  have HH := Lib.hid hH
  have hN2 : d.size = N := by omega
  have HN2 := Lib.hid hN2
  have HN := Lib.hid hN
  clear hH hs hN
  have i1 : (m : Int) - (a : Int) = ((m - a : Nat) : Int) := by omega
  have i2 : (b : Int) - (m : Int) = ((b - m : Nat) : Int) := by omega
  go_enter Try.func139, Try.ntmps139
  go_wp2_with fail
  go_loopg [10, 11] (m - a + (b - m)) (fun g vi vj wr => ∃ (i j k : Nat) (dk : Array NB), vi = .int .i64 i ∧ vj = .int .i64 j ∧ 1 ≤ i ∧ 1 ≤ j ∧ i ≤ m - a ∧ j ≤ b - m ∧ i + j ≤ g ∧ Hid (Turn d dk a m b i j) ∧ wr = (putRow encN w blk off dk).drewN k)
  case atStart =>
    refine ⟨m - a, b - m, k0, d, ?_, ?_, by omega, by omega, by omega, by omega, by omega, Turn.start d (by omega) (by omega), rfl⟩
    · first | rfl | go_num | (congr 1)
    · first | rfl | go_num | (congr 1)
  case round =>
    obtain ⟨i, j, k, dk, rfl, rfl, hi1, hj1, hi2, hj2, hg, HT, rfl⟩ := hrel
    have hdk : dk.size = d0.size := by have h := HT.out.size; have h2 := HN2.out; have h3 := HN.out; omega
    obtain ⟨p, hp⟩ : ∃ p, p = m - i := ⟨_, rfl⟩
    have e1 : (m : Int) - (i : Int) = (p : Int) := by omega
    have e2 : IntKind.i64.wrap (p : Int) = (p : Int) := by rw [IntKind.wrap_i64]; omega
    by_cases hij : i = j
    · subst hij
      have HP := Lib.hid hp
      clear hp
      go_wp2_with (go_at_call 153; refine (swapRange_at blk off cap N p m i d0 dk k w HH.out hdk HN.out (by have := HP.out; omega) (by omega) hsz).mono ?_; rintro e w1 ⟨rfl, d', k', hw1, hsz', hd'⟩; have HW := Lib.hid hw1; have HD := Lib.hid hd'; clear hw1 hd')
      go_end0
      have ht := Turn.done HT.out hi2 (by omega) (by omega) (by rw [HN2.out]; exact hb)
      rw [← HP.out, ← HD.out] at ht
      exact ⟨rfl, d', k', HW.out, hsz', ht⟩
    · have hijz : ¬ (i : Int) = (j : Int) := by omega
      by_cases hlt : j < i
      · have hltz : (j : Int) < (i : Int) := by omega
        have e3 : (i : Int) - (j : Int) = ((i - j : Nat) : Int) := by omega
        have HP := Lib.hid hp
        clear hp
        go_wp2_with (go_at_call 153; refine (swapRange_at blk off cap N p m j d0 dk k w HH.out hdk HN.out (by have := HP.out; omega) (by omega) hsz).mono ?_; rintro e w1 ⟨rfl, d', k', hw1, hsz', hd'⟩; have HW := Lib.hid hw1; have HD := Lib.hid hd'; clear hw1 hd')
        go_roundg (i + j - 1)
        case measure => omega
        case rel =>
          refine ⟨i - j, j, k', d', ?_, rfl, by omega, by omega, by omega, by omega, by omega, ?_, HW.out⟩
          · first | rfl | go_num | (congr 1)
          · have ht := Turn.left HT.out hlt hi2 (by omega) (by omega) (by rw [HN2.out]; exact hb)
            rw [← HP.out, ← HD.out] at ht
            exact ht
      · have hltz : ¬ (j : Int) < (i : Int) := by omega
        have e3 : (j : Int) - (i : Int) = ((j - i : Nat) : Int) := by omega
        obtain ⟨q, hq⟩ : ∃ q, q = m + j - i := ⟨_, rfl⟩
        have e4 : (m : Int) + (j : Int) - (i : Int) = (q : Int) := by omega
        have e5 : IntKind.i64.wrap (q : Int) = (q : Int) := by rw [IntKind.wrap_i64]; omega
        have HP := Lib.hid hp
        have HQ := Lib.hid hq
        clear hp hq
        go_wp2_with (go_at_call 153; refine (swapRange_at blk off cap N p q i d0 dk k w HH.out hdk HN.out (by have := HP.out; have := HQ.out; omega) (by have := HQ.out; omega) hsz).mono ?_; rintro e w1 ⟨rfl, d', k', hw1, hsz', hd'⟩; have HW := Lib.hid hw1; have HD := Lib.hid hd'; clear hw1 hd')
        go_roundg (i + j - 1)
        case measure => omega
        case rel =>
          refine ⟨i, j - i, k', d', rfl, ?_, by omega, by omega, by omega, by omega, by omega, ?_, HW.out⟩
          · first | rfl | go_num | (congr 1)
          · have ht := Turn.right HT.out (by omega) hi2 (by omega) (by omega) (by rw [HN2.out]; exact hb)
            rw [← HP.out, ← HQ.out, ← HD.out] at ht
            exact ht
end Go.Proofs.Ytonmdkhfongmhaa
