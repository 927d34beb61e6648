/- The code of aquifers, a site and readings: both sides. -/
import Derived.Test.YtonmdkhfongmhaaTask
import Derived.Test.YtonmdkhfongmhaaWfin
namespace Go.Proofs.Ytonmdkhfongmhaa
open Go.RowKit

def askF (A : Bool) (s : Si) (l : List Rd) : Int := if A && s.ok && okR l then 0 else 1

theorem wpList_getgd {P : Program} {ops : Array Oper} {Q : Exit → Act → World → Prop} {rest : List Oper} {a : Act} {w : World} {dst : Option Tmp} {T ty : TypeId} {X : Operand} {pos : String} {after : Array Edge} {gd : Option (Nat × Bool)}
    {g : Nat} {cells : Array Value} {t : TypeId} {d : TypeDesc} (hgd : Region.wanted ⟨dst, .load T X, ty, pos, after, gd⟩ (yielded ops a.tmps) = true) (hg : Blk w g cells t) (hu : P.underlying T = some d) (hd : (match d with | .struct _ | .array _ _ => true | _ => false) = true) (hi : (P.info? T).map (·.size) = some cells.size)
    (hx : a.eval X = .pointer (some ⟨g, 0, none⟩)) (h : wpList P ops Q rest (a.put dst (.agg cells)) w) : wpList P ops Q (⟨dst, .load T X, ty, pos, after, gd⟩ :: rest) a w := by
  refine wpList_step fun K hK => ?_
  rw [if_pos hgd]
  unfold Oper.wp
  have hl := run_loadVar_row w g _ _ _ _ _ hg hu hd hi
  have : (execOp a.eval ⟨dst, .load T X, ty, pos, after, gd⟩).run P w = .ok (.value (.agg cells)) w := by
    simp only [execOp, hx, Instr.loadAt, Instr.sureAddr]
    simp [hl]
  rw [this]
  exact hK _ _ h

set_option maxRecDepth 100000 in
set_option maxHeartbeats 1600000 in
theorem fitFault_any (s : Si) (hs : s.Rng) (v vg : Value) (l : List Rd) (gs : List Aq) (w : World) (hlen : l.length ≤ 1048576) (hg : gs.length < 9223372036854775808) (hv : RAt w v l) (hvg : AAt w vg gs) :
    Calls Try.prog 63 #[.agg s.cells, v, vg] w fun e w' => e = .returned (.int .i64 (askF (gs.all Aq.ok) s l)) ∧ Below w.heap.size w w' := by
  have HS := Lib.hid hs
  have HV := Lib.hid hv
  have HVG := Lib.hid hvg
  clear hs hv hvg
  cases ha : gs.all Aq.ok
  · have HA := Lib.hid ha
    have HK : Hid (askF false s l = 1) := rfl
    clear ha
    go_enter Try.func63, Try.ntmps63
    go_wp2_with (with_reducible refine wpList_box rfl ?_)
    intro b w1 hB1 hB2 hB3 hB4
    have HB := Lib.hid hB4
    have HBk := Lib.hid hB3
    clear hB3 hB4
    go_wp2_with fail
    refine (ContainsA_any vg gs w1 hg (HVG.out.far HB.out)).mono ?_
    rw [HA.out]
    rintro e w2 ⟨rfl, hb2⟩
    have HB2 := Lib.hid (below_next HB.out hb2)
    have HBk2 := Lib.hid (HBk.out.later hb2)
    clear hb2
    go_wp2_with fail
    go_ret
    exact ⟨by rw [HK.out]; rfl, HB2.out⟩
  · have HA := Lib.hid ha
    clear ha
    cases hso : s.ok
    · have HSO := Lib.hid hso
      have HK : Hid (askF true s l = 1) := by show _ = _; unfold askF; rw [hso]; rfl
      clear hso
      go_enter Try.func63, Try.ntmps63
      go_wp2_with (with_reducible refine wpList_box rfl ?_)
      intro b w1 hB1 hB2 hB3 hB4
      have HB := Lib.hid hB4
      have HBk := Lib.hid hB3
      clear hB3 hB4
      go_wp2_with fail
      refine (ContainsA_any vg gs w1 hg (HVG.out.far HB.out)).mono ?_
      rw [HA.out]
      rintro e w2 ⟨rfl, hb2⟩
      have HB2 := Lib.hid (below_next HB.out hb2)
      have HBk2 := Lib.hid (HBk.out.later hb2)
      clear hb2
      go_wp2_with ((with_reducible refine wpList_getgd ?_ HBk2.out Try.underlying46 rfl (by kernel_rfl) ?_ ?_); (exact rfl); rfl)
      refine (ValidSite_any s HS.out w2).mono ?_
      rw [HSO.out]
      rintro e w3 ⟨rfl, hb3⟩
      have HB3 := Lib.hid (below_next HB2.out hb3)
      clear hb3
      go_wp2_with fail
      go_ret
      exact ⟨by rw [HK.out]; rfl, HB3.out⟩
    · have HSO := Lib.hid hso
      cases hro : okR l
      · have HRO := Lib.hid hro
        have HK : Hid (askF true s l = 1) := by show _ = _; unfold askF; rw [hso, hro]; rfl
        clear hso hro
        go_enter Try.func63, Try.ntmps63
        go_wp2_with (with_reducible refine wpList_box rfl ?_)
        intro b w1 hB1 hB2 hB3 hB4
        have HB := Lib.hid hB4
        have HBk := Lib.hid hB3
        clear hB3 hB4
        go_wp2_with fail
        refine (ContainsA_any vg gs w1 hg (HVG.out.far HB.out)).mono ?_
        rw [HA.out]
        rintro e w2 ⟨rfl, hb2⟩
        have HB2 := Lib.hid (below_next HB.out hb2)
        have HBk2 := Lib.hid (HBk.out.later hb2)
        clear hb2
        go_wp2_with ((with_reducible refine wpList_getgd ?_ HBk2.out Try.underlying46 rfl (by kernel_rfl) ?_ ?_); (exact rfl); rfl)
        refine (ValidSite_any s HS.out w2).mono ?_
        rw [HSO.out]
        rintro e w3 ⟨rfl, hb3⟩
        have HB3 := Lib.hid (below_next HB2.out hb3)
        clear hb3
        go_wp2_with fail
        refine (ValidReadings_any v l w3 hlen (HV.out.far HB3.out)).mono ?_
        rw [HRO.out]
        rintro e w4 ⟨rfl, hb4⟩
        have HB4 := Lib.hid (below_next HB3.out hb4)
        clear hb4
        go_wp2_with fail
        go_ret
        exact ⟨by rw [HK.out]; rfl, HB4.out⟩
      · have HRO := Lib.hid hro
        have HK : Hid (askF true s l = 0) := by show _ = _; unfold askF; rw [hso, hro]; rfl
        clear hso hro
        go_enter Try.func63, Try.ntmps63
        go_wp2_with (with_reducible refine wpList_box rfl ?_)
        intro b w1 hB1 hB2 hB3 hB4
        have HB := Lib.hid hB4
        have HBk := Lib.hid hB3
        clear hB3 hB4
        go_wp2_with fail
        refine (ContainsA_any vg gs w1 hg (HVG.out.far HB.out)).mono ?_
        rw [HA.out]
        rintro e w2 ⟨rfl, hb2⟩
        have HB2 := Lib.hid (below_next HB.out hb2)
        have HBk2 := Lib.hid (HBk.out.later hb2)
        clear hb2
        go_wp2_with ((with_reducible refine wpList_getgd ?_ HBk2.out Try.underlying46 rfl (by kernel_rfl) ?_ ?_); (exact rfl); rfl)
        refine (ValidSite_any s HS.out w2).mono ?_
        rw [HSO.out]
        rintro e w3 ⟨rfl, hb3⟩
        have HB3 := Lib.hid (below_next HB2.out hb3)
        clear hb3
        go_wp2_with fail
        refine (ValidReadings_any v l w3 hlen (HV.out.far HB3.out)).mono ?_
        rw [HRO.out]
        rintro e w4 ⟨rfl, hb4⟩
        have HB4 := Lib.hid (below_next HB3.out hb4)
        clear hb4
        go_wp2_with fail
        go_ret
        exact ⟨by rw [HK.out]; rfl, HB4.out⟩
end Go.Proofs.Ytonmdkhfongmhaa
