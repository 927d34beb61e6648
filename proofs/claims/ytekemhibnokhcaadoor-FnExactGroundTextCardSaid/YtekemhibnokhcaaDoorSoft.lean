/- A region that draws its order, whose operations read, reckon and call: one walk in the order of the text serves every order, though a NaN's bits are drawn and a callee makes memory of its own. -/
import Derived.Test.YtekemhibnokhcaaDoorFl
import Derived.Still
import Derived.Below
namespace Go.Proofs.YtekemhibnokhcaaDoor
open Go.RowKit
section
variable {P : Program} {ops : Array Oper} {md : Region.Mode} {C : World → Prop} {S : FuncId → Array Value → Value → Prop}

def SafeR (P : Program) (C : World → Prop) (S : FuncId → Array Value → Value → Prop) : Result Next → Prop
  | .ok (.value _) w' => C w'
  | .ok .skip w' => C w'
  | .ok (.enter f args) w' => C w' ∧ Calls P f args w' (fun x w'' => ∃ v, x = .returned v ∧ S f args v ∧ C w'')
  | _ => False

def MayR (S : FuncId → Array Value → Value → Prop) (v : Value) : Result Next → Prop
  | .ok (.value u) _ => v = u
  | .ok .skip _ => v = undef
  | .ok (.enter f args) _ => S f args v
  | _ => False

/-- From every world of the class: it yields, or calls what keeps to its word. -/
def Safe (P : Program) (C : World → Prop) (S : FuncId → Array Value → Value → Prop) (e : Sem Next) : Prop := ∀ w, C w → SafeR P C S (e.run P w)

/-- What it may yield. -/
def May (P : Program) (C : World → Prop) (S : FuncId → Array Value → Value → Prop) (e : Sem Next) (v : Value) : Prop := ∃ w, C w ∧ MayR S v (e.run P w)

theorem calls_some {f : FuncId} {args : Array Value} {w : World} (h : Calls P f args w (fun x w'' => ∃ v, x = .returned v ∧ S f args v ∧ C w'')) : ∃ v, S f args v := by
  obtain ⟨_, _, _, ⟨v, _, hs, _⟩, _⟩ := h []
  exact ⟨v, hs⟩

theorem mayR_some {r : Result Next} (h : SafeR P C S r) : ∃ v, MayR S v r := by
  cases r with
  | halt x w' => exact h.elim
  | ok n w' =>
    cases n
    case value u => exact ⟨u, rfl⟩
    case skip => exact ⟨undef, rfl⟩
    case enter f args => exact calls_some h.2
    all_goals exact h.elim

theorem may_some {e : Sem Next} (h : Safe P C S e) {w : World} (hw : C w) : ∃ v, May P C S e v := by
  obtain ⟨v, hv⟩ := mayR_some (h w hw)
  exact ⟨v, w, hw, hv⟩

def sOp (P : Program) (ops : Array Oper) (C : World → Prop) (S : FuncId → Array Value → Value → Prop) (o : Oper) (K : Act → Prop) (a : Act) : Prop :=
  if Region.wanted o (yielded ops a.tmps) then Safe P C S (execOp a.eval o) ∧ ∀ v, May P C S (execOp a.eval o) v → K (a.put o.dst v) else K (a.put o.dst undef)

theorem sOp_mono {o : Oper} {a : Act} {K K' : Act → Prop} (h : ∀ a, K a → K' a) (hh : sOp P ops C S o K a) : sOp P ops C S o K' a := by
  unfold sOp at *
  split
  · rename_i hw; rw [if_pos hw] at hh; exact ⟨hh.1, fun v hv => h _ (hh.2 v hv)⟩
  · rename_i hw; rw [if_neg hw] at hh; exact h _ hh

/-- Two operations apart from each other may change places. -/
theorem sOp_swap {oi oj : Oper} (hap : oi.apart ops oj = true) (hsi : ∀ cs b, oi.op ≠ .select cs b) (hsj : ∀ cs b, oj.op ≠ .select cs b) {K : Act → Prop} {a : Act} {w0 : World} (hw0 : C w0)
    (h : sOp P ops C S oi (sOp P ops C S oj K) a) : sOp P ops C S oj (sOp P ops C S oi K) a := by
  obtain ⟨h1, h2, h3⟩ := Oper.apart_spec hap
  have ej : ∀ v, execOp (a.put oi.dst v).eval oj = execOp a.eval oj := fun v => execOp_put oj hsj a oi.dst v h1
  have wj : ∀ v, Region.wanted oj (yielded ops (a.put oi.dst v).tmps) = Region.wanted oj (yielded ops a.tmps) := fun v => wanted_put oj a oi.dst v h1
  have ei : ∀ v, execOp (a.put oj.dst v).eval oi = execOp a.eval oi := fun v => execOp_put oi hsi a oj.dst v h3
  have wi : ∀ v, Region.wanted oi (yielded ops (a.put oj.dst v).tmps) = Region.wanted oi (yielded ops a.tmps) := fun v => wanted_put oi a oj.dst v h3
  unfold sOp at *
  simp only [ej, wj] at h
  simp only [ei, wi]
  by_cases hi : Region.wanted oi (yielded ops a.tmps) = true
  · simp only [hi, if_true] at h ⊢
    obtain ⟨hs, hk⟩ := h
    by_cases hj : Region.wanted oj (yielded ops a.tmps) = true
    · simp only [hj, if_true] at hk ⊢
      obtain ⟨v0, hv0⟩ := may_some hs hw0
      refine ⟨(hk v0 hv0).1, fun u hu => ⟨hs, fun v hv => ?_⟩⟩
      rw [← Act.put_comm a v u h2]
      exact (hk v hv).2 u hu
    · simp only [hj] at hk ⊢
      refine ⟨hs, fun v hv => ?_⟩
      have := hk v hv
      rw [if_neg (by simp)] at this
      rw [← Act.put_comm a v undef h2]
      exact this
  · simp only [hi] at h ⊢
    rw [if_neg (by simp)] at h
    by_cases hj : Region.wanted oj (yielded ops a.tmps) = true
    · simp only [hj, if_true] at h ⊢
      refine ⟨h.1, fun u hu => ?_⟩
      rw [if_neg (by simp), ← Act.put_comm a undef u h2]
      exact h.2 u hu
    · simp only [hj] at h ⊢
      rw [if_neg (by simp)] at h ⊢
      rw [if_neg (by simp), ← Act.put_comm a undef undef h2]
      exact h

/-- Whatever order is picked from here on. -/
def wpAnyL (P : Program) (md : Region.Mode) (ops : Array Oper) (C : World → Prop) (S : FuncId → Array Value → Value → Prop) (Q : Act → Prop) : Nat → Array Bool → Act → Prop
  | 0, listed, a => Region.ready md ops listed = [] ∧ Q a
  | fuel + 1, listed, a => (Region.ready md ops listed = [] → Q a) ∧
    ∀ i ∈ Region.ready md ops listed, ∀ o, ops[i]? = some o → sOp P ops C S o (wpAnyL P md ops C S Q fuel (listed.setIfInBounds i true)) a

theorem upon_of_safe {o : Oper} {a : Act} {K : Act → Prop} {K' : Act → World → Prop} {Q' : Exit → Act → World → Prop} {r : Result Next} (h1 : SafeR P C S r) (hk : ∀ v, MayR S v r → K (a.put o.dst v))
    (h : ∀ a w', C w' → K a → K' a w') : o.upon P a K' Q' r := by
  cases r with
  | halt x w' => exact h1.elim
  | ok n w' =>
    cases n
    case value u => exact h _ _ h1 (hk u rfl)
    case skip => exact h _ _ h1 (hk undef rfl)
    case enter f args =>
      refine h1.2.mono fun e w'' ⟨v, he, hv, hc⟩ => ?_
      subst he
      exact h _ _ hc (hk v hv)
    all_goals exact h1.elim

theorem wpOp_of_sOp {i : Nat} {o : Oper} (ho : ops[i]? = some o) {a : Act} {K : Act → Prop} {K' : Act → World → Prop} {Q' : Exit → Act → World → Prop} {w : World} (hC : C w) (h : ∀ a w', C w' → K a → K' a w')
    (hh : sOp P ops C S o K a) : wpOp P ops Q' i K' a w := by
  unfold wpOp
  simp only [ho]
  unfold sOp at hh
  split
  · rename_i hw
    rw [if_pos hw] at hh
    exact .inl (upon_of_safe (hh.1 w hC) (fun v hv => hh.2 v ⟨w, hC, hv⟩) h)
  · rename_i hw
    rw [if_neg hw] at hh
    exact h _ _ hC hh

theorem wpAny_of_L {Q : Act → Prop} {Q' : Exit → Act → World → Prop} (hQ : ∀ a w, C w → Q a → Q' .normal a w) : ∀ (fuel : Nat) (listed : Array Bool) (a : Act) (w : World), C w →
    wpAnyL P md ops C S Q fuel listed a → wpAny P md ops Q' fuel listed a w
  | 0, _, _, _, hw, h => ⟨h.1, hQ _ _ hw h.2⟩
  | fuel + 1, _, a, w, hw, h => ⟨fun h0 => hQ _ _ hw (h.1 h0), fun i hi => by
      have hlt : ∃ o, ops[i]? = some o := by obtain ⟨_, o, ho, _⟩ := mem_ready.1 hi; exact ⟨o, ho⟩
      obtain ⟨o, ho⟩ := hlt
      exact wpOp_of_sOp ho hw (fun a' w' hw' => wpAny_of_L hQ fuel _ a' w' hw') (h.2 i hi o ho)⟩

theorem wpAnyL_first {Q : Act → Prop} {i : Nat} {oi : Oper} (hi : ops[i]? = some oi) (hsel : ∀ (j : Nat) (o : Oper) cs b, ops[j]? = some o → o.op ≠ .select cs b) {w0 : World} (hw0 : C w0) :
    ∀ (fuel : Nat) (listed : Array Bool) (a : Act),
      (∀ j oj, ops[j]? = some oj → j ≠ i → listed.getD j true = false → (∀ e ∈ oj.after, Region.binds md e = true → e.on ≠ i) → oi.apart ops oj = true) →
      i ∈ Region.ready md ops listed →
      sOp P ops C S oi (wpAnyL P md ops C S Q fuel (listed.setIfInBounds i true)) a → wpAnyL P md ops C S Q (fuel + 1) listed a := by
  intro fuel
  induction fuel with
  | zero =>
    intro listed a _ hr H
    refine ⟨fun h => (by rw [h] at hr; cases hr), fun j hj oj hoj => ?_⟩
    by_cases hji : j = i
    · subst hji; rw [hi] at hoj; cases hoj; exact H
    · have hrd := ready_mono hj hji
      have hemp : Region.ready md ops (listed.setIfInBounds i true) = [] := by
        unfold sOp at H
        split at H
        · obtain ⟨v, hv⟩ := may_some H.1 hw0
          exact (H.2 v hv).1
        · exact H.1
      rw [hemp] at hrd
      cases hrd
  | succ fuel ih =>
    intro listed a hfree hr H
    refine ⟨fun h => (by rw [h] at hr; cases hr), fun j hj oj hoj => ?_⟩
    by_cases hji : j = i
    · subst hji; rw [hi] at hoj; cases hoj; exact H
    · obtain ⟨hjun, oj', hoj', hall⟩ := mem_ready.1 hj
      rw [hoj] at hoj'; cases hoj'
      have hnot : ∀ e ∈ oj.after, Region.binds md e = true → e.on ≠ i := fun e he hb heq => by
        have h1 := hall e he hb
        have h0 := (mem_ready.1 hr).1
        rw [heq] at h1
        rcases Nat.lt_or_ge i listed.size with h' | h'
        · simp [h'] at h0 h1; rw [h0] at h1; cases h1
        · simp [Array.getElem?_eq_none h'] at h1
      have H2 : sOp P ops C S oi (sOp P ops C S oj (wpAnyL P md ops C S Q fuel ((listed.setIfInBounds i true).setIfInBounds j true))) a :=
        sOp_mono (fun a' h' => h'.2 j (ready_mono hj hji) oj hoj) H
      have H3 := sOp_swap (hfree j oj hoj hji hjun hnot) (fun cs b => hsel i oi cs b hi) (fun cs b => hsel j oj cs b hoj) hw0 H2
      have hfree' : ∀ k ok, ops[k]? = some ok → k ≠ i → (listed.setIfInBounds j true).getD k true = false →
          (∀ e ∈ ok.after, Region.binds md e = true → e.on ≠ i) → oi.apart ops ok = true := fun k ok hk hki hun hno => by
        refine hfree k ok hk hki ?_ hno
        by_cases hjk : j = k
        · subst hjk; exact hjun
        · rw [getD_set_ne true hjk] at hun; exact hun
      refine sOp_mono (fun a' h3 => ih (listed.setIfInBounds j true) a' hfree' (ready_mono hr (Ne.symm hji)) ?_) H3
      rw [Array.setIfInBounds_comm _ _ hji]
      exact h3

/-- The walk in the order of the text. -/
def wpSoft (P : Program) (ops : Array Oper) (C : World → Prop) (S : FuncId → Array Value → Value → Prop) (Q : Act → Prop) : List Oper → Act → Prop
  | [], a => Q a
  | o :: rest, a => sOp P ops C S o (wpSoft P ops C S Q rest) a

theorem wpAnyL_lex {Q : Act → Prop} (hs : Region.noSelect ops = true) {w0 : World} (hw0 : C w0) : ∀ (l : List Oper) (k : Nat) (listed : Array Bool) (a : Act), (∀ j, l[j]? = ops[k + j]?) →
    Region.lexFrom md ops l.length k listed = true → wpSoft P ops C S Q l a → wpAnyL P md ops C S Q l.length listed a
  | [], _, _, _, _, hB, h => ⟨by simpa [Region.lexFrom] using hB, h⟩
  | o :: l, k, listed, a, hl, hB, h => by
    have h0 : ops[k]? = some o := by simpa using (hl 0).symm
    simp only [List.length_cons, Region.lexFrom, Bool.and_eq_true] at hB
    obtain ⟨⟨hr, hf⟩, hB'⟩ := hB
    refine wpAnyL_first h0 (Region.noSelect_spec hs) hw0 l.length listed a (Region.free_spec h0 hf) (by simpa using hr) ?_
    exact sOp_mono (fun a' h' => wpAnyL_lex hs hw0 l (k + 1) _ _ (fun j => by have := hl (j + 1); simpa [Nat.add_assoc, Nat.add_comm 1 j] using this) hB' h') h

theorem wp_region_soft {id : Nat} {Q : Exit → Act → World → Prop} {a : Act} {w : World} {l : List Oper} (C : World → Prop) (S : FuncId → Array Value → Value → Prop) (hm : P.follows .mixedOrders = true) (hB : Region.lexB .any l.toArray = true) (hC : C { w with drawn := w.drawn + 1 })
    (h : wpSoft P l.toArray C S (fun a' => ∀ w', C w' → Q .normal a' w') l a) : (Code.region id l.toArray true).wp P Q a w := by
  simp only [Region.lexB, Bool.and_eq_true] at hB
  refine wp_region_any hm (wpAny_of_L (C := C) (S := S) (Q := fun a' => ∀ w', C w' → Q .normal a' w') (fun _ w' hw' h => h w' hw') _ _ _ _ hC ?_)
  have := wpAnyL_lex (P := P) (C := C) (S := S) (Q := fun a' => ∀ w', C w' → Q .normal a' w') (md := .any) hB.1 hC l 0 (Array.replicate l.toArray.size false) a (by simp) (by simpa using hB.2) h
  simpa using this

/-- A step whose operation yields one value and leaves the world. -/
theorem soft_value {Q : Act → Prop} {a : Act} {o : Oper} {rest : List Oper} (v : Value) (hg : o.guard = none) (hr : ∀ w, C w → (execOp a.eval o).run P w = .ok (.value v) w)
    (h : wpSoft P ops C S Q rest (a.put o.dst v)) : wpSoft P ops C S Q (o :: rest) a := by
  show sOp P ops C S o _ a
  unfold sOp
  rw [if_pos (by simp [Region.wanted, hg])]
  refine ⟨fun w hw => by rw [hr w hw]; exact hw, fun u hu => ?_⟩
  obtain ⟨w, hw, hu⟩ := hu
  rw [hr w hw] at hu
  subst hu
  exact h

/-- The same, under a guard that holds. -/
theorem soft_value_on {Q : Act → Prop} {a : Act} {o : Oper} {rest : List Oper} (v : Value) (hg : Region.wanted o (yielded ops a.tmps) = true) (hr : ∀ w, C w → (execOp a.eval o).run P w = .ok (.value v) w)
    (h : wpSoft P ops C S Q rest (a.put o.dst v)) : wpSoft P ops C S Q (o :: rest) a := by
  show sOp P ops C S o _ a
  unfold sOp
  rw [if_pos hg]
  refine ⟨fun w hw => by rw [hr w hw]; exact hw, fun u hu => ?_⟩
  obtain ⟨w, hw, hu⟩ := hu
  rw [hr w hw] at hu
  subst hu
  exact h

theorem soft_off {Q : Act → Prop} {a : Act} {o : Oper} {rest : List Oper} (hg : Region.wanted o (yielded ops a.tmps) = false)
    (h : wpSoft P ops C S Q rest (a.put o.dst undef)) : wpSoft P ops C S Q (o :: rest) a := by
  show sOp P ops C S o _ a
  unfold sOp
  rw [if_neg (by rw [hg]; simp)]
  exact h

/-- A step that calls. -/
theorem soft_call {Q : Act → Prop} {a : Act} {o : Oper} {rest : List Oper} (f : FuncId) (args : Array Value) (hg : o.guard = none) (hr : ∀ w, C w → (execOp a.eval o).run P w = .ok (.enter f args) w)
    (hc : ∀ w, C w → Calls P f args w (fun x w'' => ∃ v, x = .returned v ∧ S f args v ∧ C w''))
    (h : ∀ v, S f args v → wpSoft P ops C S Q rest (a.put o.dst v)) : wpSoft P ops C S Q (o :: rest) a := by
  show sOp P ops C S o _ a
  unfold sOp
  rw [if_pos (by simp [Region.wanted, hg])]
  refine ⟨fun w hw => by rw [hr w hw]; exact ⟨hw, hc w hw⟩, fun u hu => ?_⟩
  obtain ⟨w, hw, hu⟩ := hu
  rw [hr w hw] at hu
  exact h u hu

/-- A step whose operation yields some value of a kind. -/
theorem soft_some {Q : Act → Prop} {a : Act} {o : Oper} {rest : List Oper} (V : Value → Prop) (hg : o.guard = none) (hr : ∀ w, C w → ∃ v w', (execOp a.eval o).run P w = .ok (.value v) w' ∧ C w' ∧ V v)
    (h : ∀ v, V v → wpSoft P ops C S Q rest (a.put o.dst v)) : wpSoft P ops C S Q (o :: rest) a := by
  show sOp P ops C S o _ a
  unfold sOp
  rw [if_pos (by simp [Region.wanted, hg])]
  refine ⟨fun w hw => ?_, fun u hu => ?_⟩
  · obtain ⟨v, w', h1, h2, _⟩ := hr w hw
    rw [h1]; exact h2
  · obtain ⟨w, hw, hu⟩ := hu
    obtain ⟨v, w', h1, _, h3⟩ := hr w hw
    rw [h1] at hu
    have hu' : u = v := hu
    subst hu'
    exact h _ h3

/-- A step of float arithmetic. -/
theorem soft_arith {Q : Act → Prop} {a : Act} {rest : List Oper} {dst : Option Tmp} {op : BinOp} {t t2 ty : TypeId} {X Y : Operand} {pos : String} {after : Array Edge} (hC : ∀ w n, C w → C (w.drewN n))
    (x y : Nat) (ho : arith op = true) (hx : a.eval X = .float .f32 x) (hy : a.eval Y = .float .f32 y)
    (h : ∀ r, Is r (fop op (fb x) (fb y)) → wpSoft P ops C S Q rest (a.put dst (.float .f32 r))) :
    wpSoft P ops C S Q (⟨dst, .binOp op t X Y t2, ty, pos, after, none⟩ :: rest) a := by
  show sOp P ops C S _ _ a
  unfold sOp
  rw [if_pos (by simp [Region.wanted])]
  refine ⟨fun w hw => ?_, fun u hu => ?_⟩
  · obtain ⟨r, n, h1, _⟩ := run_arith (P := P) w (t := t) (x := x) (y := y) ho
    rw [execOp_bin hx hy h1]
    exact hC w n hw
  · obtain ⟨w, hw, hu⟩ := hu
    obtain ⟨r, n, h1, h2⟩ := run_arith (P := P) w (t := t) (x := x) (y := y) ho
    rw [execOp_bin hx hy h1] at hu
    subst hu
    exact h r h2

/-- What a world may grow into while nothing that is there is turned. -/
def Ext (w : World) : Type := { w' : World // Below w.heap.size w w' }
instance (w : World) : Nonempty (Ext w) := ⟨⟨w, Below.refl _ _⟩⟩
def ext (w : World) (x : Ext w) : World := x.1
theorem ext_below (w : World) (x : Ext w) : Below w.heap.size w (ext w x) := x.2
theorem ext_cell (w : World) (x : Ext w) {b o : Nat} {v : Value} (h : w.cell? ⟨b, o, none⟩ = some v) : (ext w x).cell? ⟨b, o, none⟩ = some v := by
  have hb : b < w.heap.size := block_lt_of_cell h
  rw [← h]; exact x.2.cell (p := ⟨b, o, none⟩) hb
def InExt (w : World) (w' : World) : Prop := ∃ x : Ext w, w' = ext w x
theorem inExt_of {w w' : World} (h : Below w.heap.size w w') : InExt w w' := ⟨⟨w', h⟩, rfl⟩
theorem InExt.below {w w' : World} (h : InExt w w') : Below w.heap.size w w' := by obtain ⟨x, rfl⟩ := h; exact x.2
theorem InExt.drewN {w w' : World} (n : Nat) (h : InExt w w') : InExt w (w'.drewN n) := inExt_of ⟨h.below.os, h.below.tape, h.below.output, h.below.size, h.below.block⟩
theorem InExt.next {w w' w'' : World} (h : InExt w w') (h' : Below w'.heap.size w' w'') : InExt w w'' := inExt_of (h.below.trans (h'.mono h.below.size))

/-- A step, in the form that the walk's simp takes. -/
theorem soft_step {w : World} {Q : Act → Prop} {a : Act} {o : Oper} {rest : List Oper}
    (h : ∀ K : Act → Prop, (∀ a, wpSoft P ops (InExt w) S Q rest a → K a) → if Region.wanted o (yielded ops a.tmps) then (((∃ v, (∀ x : Ext w, (execOp a.eval o).run P (ext w x) = .ok (.value v) (ext w x)) ∧ K (a.put o.dst v)) ∨
  (∃ f args, (∀ x : Ext w, (execOp a.eval o).run P (ext w x) = .ok (.enter f args) (ext w x)) ∧
    (∀ x : Ext w, Calls P f args (ext w x) (fun e w'' => ∃ v, e = .returned v ∧ S f args v ∧ Below (ext w x).heap.size (ext w x) w'')) ∧ ∀ v, S f args v → K (a.put o.dst v)))) else K (a.put o.dst undef)) : wpSoft P ops (InExt w) S Q (o :: rest) a := by
  have h := h _ (fun _ h => h)
  show sOp P ops (InExt w) S o _ a
  unfold sOp
  split
  · rename_i hw
    rw [if_pos hw] at h
    rcases h with ⟨v, hr, hk⟩ | ⟨f, args, hr, hc, hk⟩
    · refine ⟨fun w' hw' => ?_, fun u hu => ?_⟩
      · obtain ⟨x, rfl⟩ := hw'
        rw [hr x]; exact ⟨x, rfl⟩
      · obtain ⟨w', ⟨x, rfl⟩, hu⟩ := hu
        rw [hr x] at hu
        subst hu; exact hk
    · refine ⟨fun w' hw' => ?_, fun u hu => ?_⟩
      · obtain ⟨x, rfl⟩ := hw'
        rw [hr x]
        exact ⟨⟨x, rfl⟩, (hc x).mono fun e w'' ⟨v, he, hs, hb⟩ => ⟨v, he, hs, InExt.next ⟨x, rfl⟩ hb⟩⟩
      · obtain ⟨w', ⟨x, rfl⟩, hu⟩ := hu
        rw [hr x] at hu
        exact hk u hu
  · rename_i hw
    rw [if_neg hw] at h
    exact h

theorem soft_nil {Q : Act → Prop} {a : Act} (h : Q a) : wpSoft P ops C S Q [] a := h

theorem wp_soft {id : Nat} {Q : Exit → Act → World → Prop} {a : Act} {w : World} {l : List Oper} (S : FuncId → Array Value → Value → Prop) (hm : P.follows .mixedOrders = true) (hB : Region.lexB .any l.toArray = true)
    (h : wpSoft P l.toArray (InExt w) S (fun a' => ∀ w', InExt w w' → Q .normal a' w') l a) : (Code.region id l.toArray true).wp P Q a w :=
  wp_region_soft (InExt w) S hm hB (inExt_of ⟨rfl, rfl, rfl, Nat.le_refl _, fun _ _ => rfl⟩) h
end
attribute [irreducible] wpSoft
end Go.Proofs.YtekemhibnokhcaaDoor
