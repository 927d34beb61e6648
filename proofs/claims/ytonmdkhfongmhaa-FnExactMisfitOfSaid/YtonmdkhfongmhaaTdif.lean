/- The difference of a reading and a drawdown: both sides. -/
import Derived.Test.YtonmdkhfongmhaaTsite
import Derived.Test.YtonmdkhfongmhaaEq
namespace Go.Proofs.Ytonmdkhfongmhaa
open Go.RowKit

/-- A callee's word: a float. -/
def SFl (x : F) (_ : FuncId) (_ : Array Value) (v : Value) : Prop := ∃ r, v = .float .f32 r ∧ Is r x

theorem row_blk {w : World} {b : Nat} {cs : Array Value} {t : TypeId} (h : Blk w b cs t) : RowAt w b 0 cs := fun i v hv => by rw [Nat.zero_add]; exact h.at hv
theorem soft_getAt {ops : Array Oper} {S : FuncId → Array Value → Value → Prop} {Q : Act → Prop} {a : Act} {rest : List Oper} {dst : Option Tmp} {ty : TypeId} {X : Operand} {pos : String} {after : Array Edge} {w : World}
    {T : TypeId} {d : TypeDesc} {b o : Nat} {cs : Array Value} (hu : Try.prog.underlying T = some d) (hd : (match d with | .struct _ | .array _ _ => true | _ => false) = true) (hi : (Try.prog.info? T).map (·.size) = some cs.size)
    (hf : RowAt w b o cs) (hx : a.eval X = .pointer (some ⟨b, o, none⟩)) (h : wpSoft Try.prog ops (InExt w) S Q rest (a.put dst (.agg cs))) :
    wpSoft Try.prog ops (InExt w) S Q (⟨dst, .load T X, ty, pos, after, none⟩ :: rest) a :=
  soft_value (.agg cs) rfl (fun w' hw' => by
    have hf' : RowAt w' b o cs := fun i v hv => cell_below hw'.below (hf i v hv)
    obtain ⟨ti, h1, h2⟩ := Option.map_eq_some_iff.1 hi
    have hagg : (isAgg T).run Try.prog w' = .ok true w' := by
      unfold isAgg
      rw [Sem.run_bind, run_underlying hu w']
      cases d <;> simp_all
    have hl := run_loadCells_list (P := Try.prog) w' ⟨b, o, none⟩ cs.toList (fun j v hv => by
      rw [Array.getElem?_toList] at hv
      rw [Addr.add_lit]
      exact hf' j v hv)
    rw [Array.length_toList] at hl
    simp only [execOp, hx, Instr.loadAt, Instr.sureAddr, loadVar]
    simp [Sem.run_bind, hagg, sizeOf, typeInfo, h1, h2, hl]) h

set_option maxRecDepth 100000 in
set_option maxHeartbeats 1600000 in
theorem drawS_any (p : Nat) (a : Aq) (s : Si) (t : Int) (w : World) (h : SiOk a s t) (hs : Blk w p s.cells 46) :
    Calls Try.prog 77 #[.pointer (some ⟨p, 0, none⟩), .agg #[.float .f32 a.T, .float .f32 a.S], .int .i64 t] w (RetF (downS a s t) w) := by
  have H : Hid (DownOk a.T a.S s.x s.y s.px s.py t) := h
  obtain ⟨_, ⟨x0, x1⟩, ⟨y0, y1⟩, ⟨px0, px1⟩, ⟨py0, py1⟩, _⟩ := h
  go_enter Try.func77, Try.ntmps77
  go_wp2_with (with_reducible refine wpList_box rfl ?_)
  intro A wA hA1 hA2 hA3 hA4
  have hs' := hs.later hA4
  have HB := Lib.hid hA4
  have d0 : ∀ z, (ext wA z).cell? ⟨A, 0, none⟩ = some (.float .f32 a.T) := fun z => ext_cell wA z (hA3.at rfl)
  have d1 : ∀ z, (ext wA z).cell? ⟨A, 1, none⟩ = some (.float .f32 a.S) := fun z => ext_cell wA z (hA3.at rfl)
  have c0 : ∀ z, (ext wA z).cell? ⟨p, 0, none⟩ = some (.int .i8 s.x) := fun z => ext_cell wA z (hs'.at rfl)
  have c1 : ∀ z, (ext wA z).cell? ⟨p, 1, none⟩ = some (.int .i8 s.y) := fun z => ext_cell wA z (hs'.at rfl)
  have c2 : ∀ z, (ext wA z).cell? ⟨p, 2, none⟩ = some (.float .f32 s.r) := fun z => ext_cell wA z (hs'.at rfl)
  have c3 : ∀ z, (ext wA z).cell? ⟨p, 3, none⟩ = some (.int .i8 s.px) := fun z => ext_cell wA z (hs'.at rfl)
  have c4 : ∀ z, (ext wA z).cell? ⟨p, 4, none⟩ = some (.int .i8 s.py) := fun z => ext_cell wA z (hs'.at rfl)
  have RA := Lib.hid (row_blk hA3)
  have RW := Lib.hid (site_row hs')
  clear hA3 hA4 hs hs' d0 d1 c0 c1 c2
  go_wp2_with fail
  refine wp_soft (SFl (downS a s t)) (by kernel_rfl) (by kernel_rfl) ?_
  repeat (first | ((with_reducible refine soft_getAt (T := 42) (b := A) (o := 0) (cs := #[.float .f32 a.T, .float .f32 a.S]) Try.underlying42 ?_ ?_ ?_ ?_ ?_); rfl; exact sizeAq; exact RA.out; rfl) | ((with_reducible refine soft_getAt (T := 44) (b := p) (o := 0) (cs := #[.int .i8 s.x, .int .i8 s.y, .float .f32 s.r]) Try.underlying44 ?_ ?_ ?_ ?_ ?_); rfl; exact sizeWell; exact RW.out; rfl) | (refine soft_step (fun K hK => ?_); go_simp; (try go_bits); refine hK _ ?_; clear hK K) | (refine soft_step (fun K hK => ?_); go_simp; refine ⟨_, _, ⟨rfl, rfl⟩, fun zz => ?_, ?_⟩; ((with_reducible refine (drawdown_any a.T a.S s.r s.x s.y s.px s.py t _ H.out).mono ?_); rintro e w1 ⟨r, he, hr, hb⟩; exact ⟨_, he, ⟨r, rfl, hr⟩, hb⟩); rintro v ⟨r, rfl, hr⟩; refine hK _ ?_; clear hK K))
  refine soft_nil ?_
  rintro w5 hw5
  have HB5 := Lib.hid (below_next HB.out hw5.below)
  have HR := Lib.hid hr
  clear hw5 hr
  go_wp2_with fail
  go_ret
  exact ⟨_, rfl, HR.out, HB5.out⟩

/-- The difference of a reading. -/
def difF (a : Aq) (s : Si) (r : Rd) : F := fsub (levF r.l) (downS a s r.t)
/-- The callees' words in a difference. -/
def SDif (a : Aq) (s : Si) (r : Rd) (_ : FuncId) (args : Array Value) (v : Value) : Prop := (args.size = 1 ∧ ∃ q, v = .float .f32 q ∧ Is q (levF r.l)) ∨ (args.size = 3 ∧ ∃ q, v = .float .f32 q ∧ Is q (downS a s r.t))
theorem SDif.one {a : Aq} {s : Si} {r : Rd} {f : FuncId} {x v : Value} (h : SDif a s r f #[x] v) : ∃ q, v = .float .f32 q ∧ Is q (levF r.l) := by
  rcases h with ⟨_, h⟩ | ⟨h3, _⟩
  · exact h
  · exact absurd h3 (by simp)
theorem SDif.three {a : Aq} {s : Si} {r : Rd} {f : FuncId} {x y z v : Value} (h : SDif a s r f #[x, y, z] v) : ∃ q, v = .float .f32 q ∧ Is q (downS a s r.t) := by
  rcases h with ⟨h3, _⟩ | ⟨_, h⟩
  · exact absurd h3 (by simp)
  · exact h

set_option maxRecDepth 100000 in
set_option maxHeartbeats 1600000 in
theorem l04Difference_any (a : Aq) (s : Si) (r : Rd) (w : World) (h : SiOk a s r.t) :
    Calls Try.prog 60 #[.agg #[.float .f32 a.T, .float .f32 a.S], .agg s.cells, .agg #[.int .i64 r.t, .int .i16 r.l]] w (RetF (difF a s r) w) := by
  have H := Lib.hid h
  clear h
  go_enter Try.func60, Try.ntmps60
  go_wp2_with (with_reducible refine wpList_box rfl ?_)
  intro A wA hA1 hA2 hA3 hA4
  go_wp2_with (with_reducible refine wpList_box rfl ?_)
  intro B wB hB1 hB2 hB3 hB4
  go_wp2_with (with_reducible refine wpList_box rfl ?_)
  intro C wC hC1 hC2 hC3 hC4
  have hA' := (hA3.later hB4).later hC4
  have hB' := hB3.later hC4
  have HB := Lib.hid (below_next (below_next hA4 hB4) hC4)
  have d0 : ∀ z, (ext wC z).cell? ⟨A, 0, none⟩ = some (.float .f32 a.T) := fun z => ext_cell wC z (hA'.at rfl)
  have d1 : ∀ z, (ext wC z).cell? ⟨A, 1, none⟩ = some (.float .f32 a.S) := fun z => ext_cell wC z (hA'.at rfl)
  have c0 : ∀ z, (ext wC z).cell? ⟨B, 0, none⟩ = some (.int .i8 s.x) := fun z => ext_cell wC z (hB'.at rfl)
  have c1 : ∀ z, (ext wC z).cell? ⟨B, 1, none⟩ = some (.int .i8 s.y) := fun z => ext_cell wC z (hB'.at rfl)
  have c2 : ∀ z, (ext wC z).cell? ⟨B, 2, none⟩ = some (.float .f32 s.r) := fun z => ext_cell wC z (hB'.at rfl)
  have c3 : ∀ z, (ext wC z).cell? ⟨B, 3, none⟩ = some (.int .i8 s.px) := fun z => ext_cell wC z (hB'.at rfl)
  have c4 : ∀ z, (ext wC z).cell? ⟨B, 4, none⟩ = some (.int .i8 s.py) := fun z => ext_cell wC z (hB'.at rfl)
  have e0 : ∀ z, (ext wC z).cell? ⟨C, 0, none⟩ = some (.int .i64 r.t) := fun z => ext_cell wC z (hC3.at rfl)
  have e1 : ∀ z, (ext wC z).cell? ⟨C, 1, none⟩ = some (.int .i16 r.l) := fun z => ext_cell wC z (hC3.at rfl)
  have RA := Lib.hid (row_blk hA')
  have RS := Lib.hid (row_blk hB')
  have RR := Lib.hid (row_blk hC3)
  clear hA3 hA4 hB3 hB4 hC3 hC4 hA' hB' d0 d1 c0 c1 c2 c3 c4 e1
  go_wp2_with fail
  refine wp_soft (SDif a s r) (by kernel_rfl) (by kernel_rfl) ?_
  repeat (first | ((with_reducible refine soft_getAt (T := 81) (b := C) (o := 0) (cs := #[.int .i64 r.t, .int .i16 r.l]) Try.underlying81 ?_ ?_ ?_ ?_ ?_); rfl; exact sizeRd; exact RR.out; rfl) | ((with_reducible refine soft_getAt (T := 42) (b := A) (o := 0) (cs := #[.float .f32 a.T, .float .f32 a.S]) Try.underlying42 ?_ ?_ ?_ ?_ ?_); rfl; exact sizeAq; exact RA.out; rfl) | ((with_reducible refine soft_getAt (T := 46) (b := B) (o := 0) (cs := s.cells) Try.underlying46 ?_ ?_ ?_ ?_ ?_); rfl; exact sizeSt; exact RS.out; rfl) | (refine soft_arith (fun _ n h => h.drewN n) _ _ rfl rfl rfl ?_; intro r7 hr7) | (refine soft_step (fun K hK => ?_); go_simp; (try go_bits); refine hK _ ?_; clear hK K) | (refine soft_step (fun K hK => ?_); go_simp; refine ⟨_, _, ⟨rfl, rfl⟩, fun zz => ?_, ?_⟩; ((with_reducible refine (l04Level_any r.t r.l _).mono ?_); rintro e w1 ⟨q, he, hr, hb⟩; exact ⟨_, he, .inl ⟨rfl, q, rfl, hr⟩, hb⟩); intro v hv; obtain ⟨q1, rfl, hq1⟩ := hv.one; clear hv; refine hK _ ?_; clear hK K) | (refine soft_step (fun K hK => ?_); go_simp; refine ⟨_, _, ⟨rfl, rfl⟩, fun zz => ?_, ?_⟩; ((with_reducible refine (l04Drawdown_any a s r.t _ H.out).mono ?_); rintro e w1 ⟨q, he, hr, hb⟩; exact ⟨_, he, .inr ⟨rfl, q, rfl, hr⟩, hb⟩); intro v hv; obtain ⟨q2, rfl, hq2⟩ := hv.three; clear hv; refine hK _ ?_; clear hK K))
  refine soft_nil ?_
  rintro w5 hw5
  have HB5 := Lib.hid (below_next HB.out hw5.below)
  have HR := Lib.hid (hr7.op hq1 hq2)
  clear hw5 hr7
  go_wp2_with fail
  go_ret
  exact ⟨_, rfl, HR.out, HB5.out⟩
end Go.Proofs.Ytonmdkhfongmhaa
