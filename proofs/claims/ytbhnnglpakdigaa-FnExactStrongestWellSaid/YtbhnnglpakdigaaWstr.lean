/- The strongest well at a place, told with a code: both sides. -/
import Derived.Test.YtbhnnglpakdigaaWstrong
namespace Go.Proofs.Ytbhnnglpakdigaa
open Go.RowKit

theorem ret_tmp3 {fn : Func} {a : Act} {w : World} {R : Ending → World → Prop} {u v x : Tmp} (h : fn.results = #[.tmp u, .tmp v, .tmp x]) (hd : a.defers = [])
    (hR : R (.returned (.tuple #[a.tmps.getD u undef, a.tmps.getD v undef, a.tmps.getD x undef])) w) : bodyPost Try.prog fn R .ret a w := by
  refine bodyPost_ret (v := .tuple #[a.tmps.getD u undef, a.tmps.getD v undef, a.tmps.getD x undef]) ?_ hd hR
  simp only [results, h]
  simp

theorem FListAt.far' {w2 w' : World} {v : Value} {l : List Nat} (h : FListAt w2 v l) (hb : Below w2.heap.size w2 w') : FListAt w' v l := by
  obtain ⟨a, cap, e, hc, hL⟩ := h
  refine ⟨a, cap, e, hc, fun j c hc => ?_⟩
  obtain ⟨gq, e2, hq⟩ := hL j c hc
  exact ⟨gq, e2, cell_below hb hq⟩

def StrongRelS (bl : List Nat) (w : World) (v15 v16 : Value) (wr : World) : Prop :=
  ∃ i b : Nat, 1 ≤ i ∧ i ≤ bl.length ∧ v16 = .int .i64 i ∧ v15 = .int .i64 b ∧ bestN (bl.map fb) i = some b ∧ Below w.heap.size w wr

set_option maxRecDepth 100000 in
set_option maxHeartbeats 3200000 in
theorem StrongestWell_any (T S : Nat) (v : Value) (l : List We) (x y t : Int) (w : World) (hlen : l.length ≤ 1048576) (hv : WAt w v l) :
    Calls Try.prog 48 #[.agg #[.float .f32 T, .float .f32 S], v, .int .i64 x, .int .i64 y, .int .i64 t] w (RetStr (strR T S l x y t) w) := by
  go_enter Try.func48, Try.ntmps48
  go_wp2_with (with_reducible refine wpList_box rfl ?_)
  intro bA wA hA1 hA2 hA3 hA4
  have HG := Lib.hid hA3
  have HBA := Lib.hid hA4
  go_wp2_with ((with_reducible refine wpList_get hA3 Try.underlying30 rfl (by kernel_rfl) ?_ ?_); rfl)
  obtain ⟨c, hc⟩ : ∃ c, askW (okA (fb T) (fb S)) l x y [t] = c := ⟨_, rfl⟩
  have HC := Lib.hid hc
  clear hc
  refine (momentsFault_any T S _ _ l x y [t] _ (by omega) ((hv.far hA4).far ((Below.refl _ _).alloc (Nat.le_refl _) _)) (by simp) (tat_list (ts := [t]) (Blk.new' wA _ _ rfl))).mono ?_
  rw [HC.out]
  rintro e w2 ⟨rfl, hb2⟩
  have HG2 := Lib.hid ((HG.out.alloc _).later hb2)
  have HB2 := Lib.hid (below_next (HBA.out.alloc HBA.out.size _) hb2)
  have HV := Lib.hid (hv.far HB2.out)
  clear hb2 hA3 hA4
  by_cases h0 : c = 0
  · subst h0
    have hl12 := (ask_down HC.out).2.2.1
    have HD : Hid (∀ e ∈ l, DownOk T S e.x e.y x y t) := fun e he => down_of HC.out he (by obtain ⟨_, _, _, _, _, h⟩ := ask_down HC.out; exact mom_of (h t (by simp)))
    go_wp2_with ((with_reducible refine wpList_get HG2.out Try.underlying30 rfl (by kernel_rfl) ?_ ?_); rfl)
    refine (drawdowns_any T S _ l x y t w2 hl12 HV.out HD.out).mono ?_
    rintro e3 w3 ⟨v3, bl, rfl, hown3, hbl3, hb3⟩
    have hF3 := flist_of hown3
    have hll : Hid (bl.length = l.length) := by show _ = _; have := congrArg List.length hbl3; rw [List.length_map, List.length_map] at this; exact this
    have hl64 : bl.length ≤ 64 := by have := hll.out; omega
    have HBL := Lib.hid hbl3
    have HB3 := Lib.hid (below_next HB2.out hb3)
    clear hb3 hown3 hbl3
    go_wp2_with fail
    refine (strongest_any v3 bl w3 hl64 hF3 (downs_fit HBL.out)).mono ?_
    rintro e4 w4 ⟨rfl, hb4⟩
    have HB4 := Lib.hid (below_next HB3.out hb4)
    have HF4 := Lib.hid (FListAt.far' hF3 hb4)
    clear hb4 hF3
    cases hb : bestN (bl.map fb) bl.length with
    | none =>
      have HR : Hid (strR T S l x y t = ⟨0, some 0, 6⟩) := by show (if _ then _ else _) = _; rw [if_pos HC.out, ← HBL.out, ← hll.out, hb]
      have hz : bestI (none : Option Nat) = -1 := rfl
      clear hb
      go_wp2_with fail
      refine ret_tmp3 rfl rfl ?_
      exact ⟨0, by rw [HR.out]; rfl, by rw [HR.out]; exact fb0, HB4.out⟩
    | some b =>
      have hbj := bestN_lt hb
      obtain ⟨cb, hcb⟩ : ∃ cb, bl[b]? = some cb := ⟨_, List.getElem?_eq_getElem hbj⟩
      have HR : Hid (strR T S l x y t = ⟨b, fb cb, 0⟩) := by show (if _ then _ else _) = _; rw [if_pos HC.out, ← HBL.out, ← hll.out, hb]; show (⟨_, nth (bl.map fb) b, 0⟩ : StrR) = _; rw [nth_map hcb]
      obtain ⟨aL, cap, rfl, _, hL⟩ := HF4.out
      obtain ⟨gq, rfl, hq⟩ := hL b cb hcb
      have b1 : (b : Int) < (bl.length : Int) := by omega
      have HZ : Hid (bestI (some b) = (b : Int)) := rfl
      rw [HZ.out]
      clear hL hb hcb
      go_wp2_with fail
      go_quiet (fail)
      go_wp2_with fail
      refine ret_tmp3 rfl rfl ?_
      exact ⟨cb, by rw [HR.out]; rfl, by rw [HR.out]; rfl, below_drawn HB4.out _⟩
  · have HR : Hid (strR T S l x y t = ⟨0, some 0, c⟩) := by show (if _ then _ else _) = _; rw [HC.out, if_neg h0]
    go_wp2_with fail
    refine ret_tmp3 rfl rfl ?_
    exact ⟨0, by rw [HR.out]; rfl, by rw [HR.out]; exact fb0, HB2.out⟩

set_option maxRecDepth 100000 in
set_option maxHeartbeats 3200000 in
theorem specStrongestWell_any (T S : Nat) (v : Value) (l : List We) (x y t : Int) (w : World) (hlen : l.length ≤ 1048576) (hv : WAt w v l) :
    Calls Try.prog 47 #[.agg #[.float .f32 T, .float .f32 S], v, .int .i64 x, .int .i64 y, .int .i64 t] w (RetStr (strR T S l x y t) w) := by
  have hgt := order_gt
  go_enter Try.func47, Try.ntmps47
  go_wp2_with (with_reducible refine wpList_box rfl ?_)
  intro bA wA hA1 hA2 hA3 hA4
  have HBA := Lib.hid hA4
  go_wp2_with ((with_reducible refine wpList_get hA3 Try.underlying30 rfl (by kernel_rfl) ?_ ?_); rfl)
  obtain ⟨c, hc⟩ : ∃ c, askW (okA (fb T) (fb S)) l x y [t] = c := ⟨_, rfl⟩
  have HC := Lib.hid hc
  clear hc
  refine (specDrawdownsAt_any T S _ l x y t _ hlen (hv.far hA4)).mono ?_
  rw [HC.out]
  rintro e w2 ⟨v3, bl, rfl, hown3, hbl3, hb3⟩
  have HB3 := Lib.hid (below_next HBA.out hb3)
  have hF3 := flist_of hown3
  clear hb3 hA3 hA4 hown3
  by_cases h0 : c = 0
  · subst h0
    have hl12 := (ask_down HC.out).2.2.1
    have hds : dsR T S l x y t = l.map (downW T S x y t) := by show (if _ then _ else _) = _; rw [if_pos HC.out]
    rw [hds] at hbl3
    have hll : Hid (bl.length = l.length) := by show _ = _; have := congrArg List.length hbl3; rw [List.length_map, List.length_map] at this; exact this
    have hl64 : bl.length ≤ 64 := by have := hll.out; omega
    have HBL := Lib.hid hbl3
    have HFIT := Lib.hid (downs_fit hbl3)
    clear hbl3 hds
    obtain ⟨aL, cap, rfl, _, hL⟩ := hF3
    have HL := Lib.hid hL
    clear hL
    by_cases hn : bl.length = 0
    · have hn0 : (bl.length : Int) = 0 := by omega
      have HR : Hid (strR T S l x y t = ⟨0, some 0, 6⟩) := by
        show (if _ then _ else _) = _
        rw [if_pos HC.out, ← HBL.out, ← hll.out, hn]; rfl
      go_wp2_with fail
      refine ret_tmp3 rfl rfl ?_
      exact ⟨0, by rw [HR.out]; rfl, by rw [HR.out]; exact fb0, HB3.out⟩
    · have hn0 : ((bl.length : Int) == 0) = false := by rw [beq_eq_false_iff_ne]; omega
      go_wp2_with fail
      go_loopw [15, 16] (fun v15 v16 wr => StrongRelS bl w2 v15 v16 wr) (fun _ v16 _ => bl.length - (intOf v16).toNat)
      case atStart => exact ⟨1, 0, by omega, by omega, rfl, rfl, rfl, Below.refl _ _⟩
      case round =>
        obtain ⟨i, b, hi1, hi2, rfl, rfl, hz, hB⟩ := hrel
        have HB := Lib.hid hB
        clear hB
        have hbi := bestN_lt hz
        obtain ⟨cb, hcb⟩ : ∃ cb, bl[b]? = some cb := ⟨_, List.getElem?_eq_getElem (by omega)⟩
        obtain ⟨gq, rfl, hqb⟩ := HL.out b cb hcb
        have b1 : (b : Int) < (bl.length : Int) := by omega
        have qb := cell_below HB.out hqb
        have HNB := Lib.hid (nth_map hcb)
        by_cases hlt : i < bl.length
        · obtain ⟨c, hc⟩ : ∃ c, bl[i]? = some c := ⟨_, List.getElem?_eq_getElem hlt⟩
          obtain ⟨gq', e, hqc⟩ := HL.out i c hc
          cases e
          have HN := Lib.hid (nth_map hc)
          have HMORE := Lib.hid (bestN_succ (bl.map fb) i)
          rw [hz] at HMORE
          have F1 : Hid (Fits (fb c)) := HFIT.out c (List.mem_of_getElem? hc)
          have F2 : Hid (Fits (fb cb)) := HFIT.out cb (List.mem_of_getElem? hcb)
          have j1 : (i : Int) < (bl.length : Int) := by omega
          have q1 : ∀ zz, (ext wr zz).cell? ⟨gq, i, none⟩ = some (.float .f32 c) := fun zz => ext_cell wr zz (cell_below HB.out hqc)
          have q2 : ∀ zz, (ext wr zz).cell? ⟨gq, b, none⟩ = some (.float .f32 cb) := fun zz => ext_cell wr zz qb
          clear hc hcb hqc hqb qb hz
          go_wp2_with fail
          refine wp_soft SAlike (by kernel_rfl) (by kernel_rfl) ?_
          repeat (first | (refine soft_step (fun K hK => ?_); go_simp; (try go_bits); refine hK _ ?_; clear hK K) | (refine soft_step (fun K hK => ?_); go_simp; refine ⟨_, _, ⟨rfl, rfl⟩, fun zz => (l03Size_any _ _ ?_).mono ?_, ?_⟩; (first | exact F1.out | exact F2.out); (rintro e w1 ⟨r, he, hr, hb⟩; exact ⟨_, he, ⟨_, r, rfl, rfl, hr⟩, hb⟩); rintro v ⟨_, r, e, rfl, hr⟩; cases e; refine hK _ ?_; clear hK K))
          rename_i rc hrc
          refine soft_nil ?_
          rintro w5 hw5
          have HB5 := Lib.hid (below_next HB.out hw5.below)
          have hG : fgt (fb rc) (fb r) = fgt (fabs (nth (bl.map fb) i)) (fabs (nth (bl.map fb) b)) := by rw [hrc.gt hr, HN.out, HNB.out]
          clear hw5 hrc hr q1 q2
          go_wp2_with fail
          · rename_i h
            have hT : fgt (fabs (nth (bl.map fb) i)) (fabs (nth (bl.map fb) b)) = true := by rw [← hG]; exact h
            have HS : Hid (bestStep (nth (bl.map fb)) (some b) i = some i) := by show (if _ then _ else _) = _; rw [hT]; rfl
            clear hT
            go_roundw
            case rel => exact ⟨i + 1, i, by omega, by omega, by go_num, rfl, by rw [HMORE.out, HS.out], HB5.out⟩
            case measure => simp [intOf]; omega
          · rename_i h
            have hT : fgt (fabs (nth (bl.map fb) i)) (fabs (nth (bl.map fb) b)) = false := by rw [← hG]; exact h
            have HS : Hid (bestStep (nth (bl.map fb)) (some b) i = some b) := by show (if _ then _ else _) = _; rw [hT]; rfl
            clear hT
            go_roundw
            case rel => exact ⟨i + 1, b, by omega, by omega, by go_num, rfl, by rw [HMORE.out, HS.out], HB5.out⟩
            case measure => simp [intOf]; omega
        · have hin : i = bl.length := by omega
          have j1 : ¬ (i : Int) < (bl.length : Int) := by omega
          rw [hin] at hz
          have HR : Hid (strR T S l x y t = ⟨b, fb cb, 0⟩) := by show (if _ then _ else _) = _; rw [if_pos HC.out, ← HBL.out, ← hll.out, hz]; show (⟨_, nth (bl.map fb) b, 0⟩ : StrR) = _; rw [nth_map hcb]
          clear hz hqb hcb
          go_wp2_with fail
          go_quiet (fail)
          go_wp2_with fail
          refine ret_tmp3 rfl rfl ?_
          exact ⟨cb, by rw [HR.out]; rfl, by rw [HR.out]; rfl, HB3.out.trans ((below_drawn HB.out _).mono HB3.out.size)⟩
  · have HR : Hid (strR T S l x y t = ⟨0, some 0, c⟩) := by show (if _ then _ else _) = _; rw [HC.out, if_neg h0]
    go_wp2_with fail
    refine ret_tmp3 rfl rfl ?_
    exact ⟨0, by rw [HR.out]; rfl, by rw [HR.out]; exact fb0, HB3.out⟩
end Go.Proofs.Ytbhnnglpakdigaa
