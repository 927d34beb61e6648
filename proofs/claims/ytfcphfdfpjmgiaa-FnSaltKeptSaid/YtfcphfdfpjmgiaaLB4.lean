/- The law on salt that is kept: its plain part. -/
import Derived.Test.YtfcphfdfpjmgiaaTail
import Derived.Test.YtfcphfdfpjmgiaaLM0
import Derived.Test.YtfcphfdfpjmgiaaBrMost
import Derived.Test.YtfcphfdfpjmgiaaBrGo
import Derived.Test.YtfcphfdfpjmgiaaBrTo
import Derived.Test.YtfcphfdfpjmgiaaLB3
import Derived.Test.YtfcphfdfpjmgiaaLB2
namespace Go.Proofs.Ytfcphfdfpjmgiaa
open Go.RowKit

section
variable {P : Program} {ops : Array Oper} {md : Region.Mode}

/-- A world that keeps all memory of an earlier one, but for some blocks. -/
structure Cls (w0 : World) (S : List Nat) (w' : World) : Prop where
  os : w'.os = w0.os
  tape : w'.tape = w0.tape
  output : w'.output = w0.output
  size : w0.heap.size ≤ w'.heap.size
  block : ∀ k, k < w0.heap.size → k ∉ S → w'.heap[k]? = w0.heap[k]?
theorem Cls.of_below {w0 w' : World} {S : List Nat} (h : Below w0.heap.size w0 w') : Cls w0 S w' := ⟨h.os, h.tape, h.output, h.size, fun k hk _ => h.block k hk⟩
theorem Cls.below {w0 w' : World} (h : Cls w0 [] w') : Below w0.heap.size w0 w' := ⟨h.os, h.tape, h.output, h.size, fun k hk => h.block k hk (by simp)⟩
theorem Cls.blk {w0 w' : World} {S : List Nat} (h : Cls w0 S w') {g : Nat} {cs : Array Value} {t : TypeId} (hb : Blk w0 g cs t) (hg : g ∉ S) : Blk w' g cs t := (h.block g hb.lt hg).trans hb
theorem Cls.cell {w0 w' : World} {S : List Nat} (h : Cls w0 S w') {b o : Nat} {v : Value} (hc : w0.cell? ⟨b, o, none⟩ = some v) (hb : b ∉ S) : w'.cell? ⟨b, o, none⟩ = some v := by
  have hlt : b < w0.heap.size := block_lt_of_cell hc
  rw [← hc]; exact World.cell?_of_block (w := w0) (h.block b hlt hb)
theorem Cls.grown {w0 w w' : World} {S : List Nat} (h : Cls w0 S w) {r : Nat} (hg : w.grownBy w' (some r)) (hr : w0.heap.size ≤ r ∨ r ∈ S) : Cls w0 S w' :=
  ⟨hg.os.trans h.os, hg.tape.trans h.tape, hg.output.trans h.output, Nat.le_trans h.size hg.size, fun k hk hS => (hg.block k (Nat.lt_of_lt_of_le hk h.size) (fun e => by cases e; rcases hr with hr | hr; exact absurd hk (by omega); exact hS hr)).trans (h.block k hk hS)⟩
def ExtS (w0 : World) (S : List Nat) : Type := { w' : World // Cls w0 S w' }
instance (w0 : World) (S : List Nat) : Nonempty (ExtS w0 S) := ⟨⟨w0, ⟨rfl, rfl, rfl, Nat.le_refl _, fun _ _ _ => rfl⟩⟩⟩
def extS (w0 : World) (S : List Nat) (x : ExtS w0 S) : World := x.1
theorem extS_cell (w0 : World) (S : List Nat) (x : ExtS w0 S) {b o : Nat} {v : Value} (h : w0.cell? ⟨b, o, none⟩ = some v) (hb : b ∉ S) : (extS w0 S x).cell? ⟨b, o, none⟩ = some v := x.2.cell h hb

def isCallB (o : Oper) : Bool := match o.op with | .call c => (match c.callee with | .value _ => true | _ => false) | _ => false
def isAllocB (o : Oper) : Bool := match o.op with | .alloc _ => true | _ => false
def isStoreB (o : Oper) : Bool := match o.op with | .store _ _ _ => true | _ => false
theorem isAllocB_of {o : Oper} {T : TypeId} (h : o.op = .alloc T) : isAllocB o = true := by unfold isAllocB; rw [h]

/-- One operation: it reads, or calls, or makes a variable. -/
def cOp (P : Program) (ops : Array Oper) (w0 : World) (S : List Nat) (Zs : TypeId → Array Value) (o : Oper) (K : Act → World → (World → Prop) → Prop) (a : Act) (w : World) (Φ : World → Prop) : Prop :=
  if Region.wanted o (yielded ops a.tmps) = true then
    (∃ v, (∀ w', Cls w0 S w' → (execOp a.eval o).run P w' = .ok (.value v) w') ∧ K (a.put o.dst v) w Φ) ∨
    (isCallB o = true ∧ ∃ f args, (∀ w', Cls w0 S w' → (execOp a.eval o).run P w' = .ok (.enter f args) w') ∧
      ∀ w2, Below w.heap.size w w2 → Calls P f args w2 fun e w'' => ∃ v, e = .returned v ∧ Below w2.heap.size w2 w'' ∧ K (a.put o.dst v) w'' Φ) ∨
    (∃ T, o.op = .alloc T ∧ (∀ w', (execOp a.eval o).run P w' = .ok (.value (.pointer (some ⟨w'.heap.size, 0, none⟩))) (w'.alloc (.cells (Zs T) T))) ∧
      ∀ B, w0.heap.size ≤ B → K (a.put o.dst (.pointer (some ⟨B, 0, none⟩))) w fun w' => Φ w' ∧ B < w'.heap.size ∧ Blk w' B (Zs T) T) ∨
    (isStoreB o = true ∧ ∀ w2, Below w.heap.size w w2 → Φ w2 → ∃ w3, (execOp a.eval o).run P w2 = .ok .skip w3 ∧ Cls w0 S w3 ∧ K (a.put o.dst undef) w3 fun _ => True)
  else K (a.put o.dst undef) w Φ

def AntiK (K : Act → World → (World → Prop) → Prop) : Prop := ∀ a w Φ Φ', (∀ w, Φ' w → Φ w) → K a w Φ → K a w Φ'
def LaterK (K : Act → World → (World → Prop) → Prop) : Prop := ∀ a w w2 Φ, Below w.heap.size w w2 → K a w Φ → K a w2 Φ

variable {w0 : World} {S : List Nat} {Zs : TypeId → Array Value}

theorem below_on {w w2 : World} (h : Cls w0 S w) (h2 : Below w.heap.size w w2) : Cls w0 S w2 := ⟨h2.os.trans h.os, h2.tape.trans h.tape, h2.output.trans h.output, Nat.le_trans h.size h2.size, fun k hk hS => (h2.block k (Nat.lt_of_lt_of_le hk h.size)).trans (h.block k hk hS)⟩
theorem below_thru {w w2 w3 : World} (h : Below w.heap.size w w2) (h2 : Below w2.heap.size w2 w3) : Below w.heap.size w w3 := h.trans (h2.mono h.size)

theorem cOp_mono {o : Oper} {K K' : Act → World → (World → Prop) → Prop} (h : ∀ a w Φ, Cls w0 S w → K a w Φ → K' a w Φ) {a : Act} {w : World} {Φ : World → Prop} (hw : Cls w0 S w)
    (hh : cOp P ops w0 S Zs o K a w Φ) : cOp P ops w0 S Zs o K' a w Φ := by
  unfold cOp at *
  split
  · rename_i hwd
    rw [if_pos hwd] at hh
    rcases hh with ⟨v, hr, hk⟩ | ⟨hc, f, args, hr, hk⟩ | ⟨T, hT, hr, hk⟩ | ⟨hs, hk⟩
    · exact .inl ⟨v, hr, h _ _ _ hw hk⟩
    · exact .inr (.inl ⟨hc, f, args, hr, fun w2 h2 => (hk w2 h2).mono fun e w'' ⟨v, he, hb, hk'⟩ => ⟨v, he, hb, h _ _ _ (below_on (below_on hw h2) hb) hk'⟩⟩)
    · exact .inr (.inr (.inl ⟨T, hT, hr, fun B hB => h _ _ _ hw (hk B hB)⟩))
    · exact .inr (.inr (.inr ⟨hs, fun w2 h2 hΦ => (hk w2 h2 hΦ).imp fun w3 ⟨h1, h2, h3⟩ => ⟨h1, h2, h _ _ _ h2 h3⟩⟩))
  · rename_i hwd
    rw [if_neg hwd] at hh
    exact h _ _ _ hw hh

theorem cOp_anti {o : Oper} {K : Act → World → (World → Prop) → Prop} (hK : AntiK K) : AntiK (cOp P ops w0 S Zs o K) := by
  intro a w Φ Φ' hΦ hh
  unfold cOp at *
  split
  · rename_i hwd
    rw [if_pos hwd] at hh
    rcases hh with ⟨v, hr, hk⟩ | ⟨hc, f, args, hr, hk⟩ | ⟨T, hT, hr, hk⟩ | ⟨hs, hk⟩
    · exact .inl ⟨v, hr, hK _ _ _ _ hΦ hk⟩
    · exact .inr (.inl ⟨hc, f, args, hr, fun w2 h2 => (hk w2 h2).mono fun e w'' ⟨v, he, hb, hk'⟩ => ⟨v, he, hb, hK _ _ _ _ hΦ hk'⟩⟩)
    · exact .inr (.inr (.inl ⟨T, hT, hr, fun B hB => hK _ _ _ _ (fun w' h => ⟨hΦ _ h.1, h.2⟩) (hk B hB)⟩))
    · exact .inr (.inr (.inr ⟨hs, fun w2 h2 hΦ2 => hk w2 h2 (hΦ _ hΦ2)⟩))
  · rename_i hwd
    rw [if_neg hwd] at hh
    exact hK _ _ _ _ hΦ hh

theorem cOp_later {o : Oper} {K : Act → World → (World → Prop) → Prop} (hK : LaterK K) : LaterK (cOp P ops w0 S Zs o K) := by
  intro a w w3 Φ hb hh
  unfold cOp at *
  split
  · rename_i hwd
    rw [if_pos hwd] at hh
    rcases hh with ⟨v, hr, hk⟩ | ⟨hc, f, args, hr, hk⟩ | ⟨T, hT, hr, hk⟩ | ⟨hs, hk⟩
    · exact .inl ⟨v, hr, hK _ _ _ _ hb hk⟩
    · exact .inr (.inl ⟨hc, f, args, hr, fun w2 h2 => hk w2 (below_thru hb h2)⟩)
    · exact .inr (.inr (.inl ⟨T, hT, hr, fun B hB => hK _ _ _ _ hb (hk B hB)⟩))
    · exact .inr (.inr (.inr ⟨hs, fun w2 h2 hΦ2 => hk w2 (below_thru hb h2) hΦ2⟩))
  · rename_i hwd
    rw [if_neg hwd] at hh
    exact hK _ _ _ _ hb hh

theorem calls_one {f : FuncId} {args : Array Value} {w : World} {R : Ending → World → Prop} (h : Calls P f args w R) : ∃ e w', R e w' := by
  obtain ⟨e, w', _, hr, _⟩ := h []
  exact ⟨e, w', hr⟩

theorem value_inj {v u : Value} {w w' : World} {r : Result Next} (h : r = .ok (.value v) w) (h' : r = .ok (.value u) w') : v = u := by
  rw [h] at h'; cases h'; rfl

/-- Two operations apart from each other may change places, but for two calls, a call behind a new variable, what stands behind a store, and a store behind a call or a new variable. -/
theorem cOp_swap {x j : Oper} (hap : x.apart ops j = true) (hsx : ∀ cs b, x.op ≠ .select cs b) (hsj : ∀ cs b, j.op ≠ .select cs b)
    (hcc : ¬ (isCallB x = true ∧ isCallB j = true)) (hac : ¬ (isAllocB x = true ∧ isCallB j = true)) (hxs : ¬ isStoreB x = true) (hjs : ¬ (isStoreB j = true ∧ (isCallB x = true ∨ isAllocB x = true)))
    {K : Act → World → (World → Prop) → Prop} (hK : AntiK K) {a : Act} {w : World} {Φ : World → Prop} (hw : Cls w0 S w)
    (h : cOp P ops w0 S Zs x (cOp P ops w0 S Zs j K) a w Φ) : cOp P ops w0 S Zs j (cOp P ops w0 S Zs x K) a w Φ := by
  obtain ⟨h1, h2, h3⟩ := Oper.apart_spec hap
  have ej : ∀ v, execOp (a.put x.dst v).eval j = execOp a.eval j := fun v => execOp_put j hsj a x.dst v h1
  have wj : ∀ v, Region.wanted j (yielded ops (a.put x.dst v).tmps) = Region.wanted j (yielded ops a.tmps) := fun v => wanted_put j a x.dst v h1
  have ex : ∀ v, execOp (a.put j.dst v).eval x = execOp a.eval x := fun v => execOp_put x hsx a j.dst v h3
  have wx : ∀ v, Region.wanted x (yielded ops (a.put j.dst v).tmps) = Region.wanted x (yielded ops a.tmps) := fun v => wanted_put x a j.dst v h3
  have pc : ∀ v u, (a.put x.dst v).put j.dst u = (a.put j.dst u).put x.dst v := fun v u => Act.put_comm a v u h2
  have bad : ∀ {T : TypeId} {u : Value}, (execOp a.eval j).run P w = .ok (.value u) w → (execOp a.eval j).run P w = .ok (.value (.pointer (some ⟨w.heap.size, 0, none⟩))) (w.alloc (.cells (Zs T) T)) → False := fun {T u} p q => by
    rw [p] at q
    have e2 := congrArg (fun r : Result Next => match r with | .ok _ w' => w'.heap.size | .halt _ w' => w'.heap.size) q
    simp at e2
  unfold cOp at *
  simp only [ej, wj] at h
  simp only [ex, wx]
  by_cases hx : Region.wanted x (yielded ops a.tmps) = true
  · rw [if_pos hx] at h
    by_cases hj : Region.wanted j (yielded ops a.tmps) = true
    · rw [if_pos hj]
      simp only [hj, if_true] at h
      simp only [hx, if_true]
      rcases h with ⟨v, hr, hk⟩ | ⟨hc, f, args, hr, hk⟩ | ⟨T, hT, hr, hk⟩ | ⟨hs, hk⟩
      · rcases hk with ⟨u, hr', hk'⟩ | ⟨hc', g, brgs, hr', hk'⟩ | ⟨T', hT', hr', hk'⟩ | ⟨hs', hk'⟩
        · exact .inl ⟨u, hr', .inl ⟨v, hr, by rw [← pc]; exact hk'⟩⟩
        · exact .inr (.inl ⟨hc', g, brgs, hr', fun w2 hb2 => (hk' w2 hb2).mono fun e w'' ⟨u, he, hb, hk⟩ => ⟨u, he, hb, .inl ⟨v, hr, by rw [← pc]; exact hk⟩⟩⟩)
        · exact .inr (.inr (.inl ⟨T', hT', hr', fun B hB => .inl ⟨v, hr, by rw [← pc]; exact hk' B hB⟩⟩))
        · exact .inr (.inr (.inr ⟨hs', fun w2 hb2 hΦ => (hk' w2 hb2 hΦ).imp fun w3 ⟨q1, q2, q3⟩ => ⟨q1, q2, .inl ⟨v, hr, by rw [← pc]; exact q3⟩⟩⟩))
      · obtain ⟨e0, w1, v0, he0, hb0, hk0⟩ := calls_one (hk w (Below.refl _ _))
        rcases hk0 with ⟨u, hr', _⟩ | ⟨hc', _⟩ | ⟨T', hT', hr', _⟩ | ⟨hs', _⟩
        · refine .inl ⟨u, hr', .inr (.inl ⟨hc, f, args, hr, fun w2 hb2 => (hk w2 hb2).mono fun e w'' ⟨v, he, hb, hk'⟩ => ⟨v, he, hb, ?_⟩⟩)⟩
          rcases hk' with ⟨u', hr2, hk'⟩ | ⟨hc', _⟩ | ⟨T', hT', hr2, _⟩ | ⟨hs', _⟩
          · have e1 := value_inj (hr' w hw) (hr2 w hw)
            subst e1
            rw [← pc]; exact hk'
          · exact absurd ⟨hc, hc'⟩ hcc
          · exact (bad (hr' w hw) (hr2 w)).elim
          · exact absurd ⟨hs', .inl hc⟩ hjs
        · exact absurd ⟨hc, hc'⟩ hcc
        · refine .inr (.inr (.inl ⟨T', hT', hr', fun B hB => .inr (.inl ⟨hc, f, args, hr, fun w2 hb2 => (hk w2 hb2).mono fun e w'' ⟨v, he, hb, hk'⟩ => ⟨v, he, hb, ?_⟩⟩)⟩))
          rcases hk' with ⟨u', hr2, hk'⟩ | ⟨hc', _⟩ | ⟨T2, hT2, hr2, hk'⟩ | ⟨hs', _⟩
          · exact (bad (hr2 w hw) (hr' w)).elim
          · exact absurd ⟨hc, hc'⟩ hcc
          · rw [hT'] at hT2
            cases hT2
            rw [← pc]; exact hk' B hB
          · exact absurd ⟨hs', .inl hc⟩ hjs
        · exact absurd ⟨hs', .inl hc⟩ hjs
      · have hkB := hk w0.heap.size (Nat.le_refl _)
        rcases hkB with ⟨u, hr', _⟩ | ⟨hc', _⟩ | ⟨T', hT', hr', _⟩ | ⟨hs', _⟩
        · refine .inl ⟨u, hr', .inr (.inr (.inl ⟨T, hT, hr, fun B hB => ?_⟩))⟩
          rcases hk B hB with ⟨u', hr2, hk'⟩ | ⟨hc', _⟩ | ⟨T', hT', hr2, _⟩ | ⟨hs', _⟩
          · have e1 := value_inj (hr' w hw) (hr2 w hw)
            subst e1
            rw [← pc]; exact hk'
          · exact absurd ⟨isAllocB_of hT, hc'⟩ hac
          · exact (bad (hr' w hw) (hr2 w)).elim
          · exact absurd ⟨hs', .inr (isAllocB_of hT)⟩ hjs
        · exact absurd ⟨isAllocB_of hT, hc'⟩ hac
        · refine .inr (.inr (.inl ⟨T', hT', hr', fun B hB => .inr (.inr (.inl ⟨T, hT, hr, fun B2 hB2 => ?_⟩))⟩))
          rcases hk B2 hB2 with ⟨u', hr2, hk'⟩ | ⟨hc', _⟩ | ⟨T2, hT2, hr2, hk'⟩ | ⟨hs', _⟩
          · exact (bad (hr2 w hw) (hr' w)).elim
          · exact absurd ⟨isAllocB_of hT, hc'⟩ hac
          · rw [hT'] at hT2
            cases hT2
            rw [← pc]
            exact hK _ _ _ _ (fun w' h => ⟨⟨h.1.1, h.2⟩, h.1.2⟩) (hk' B hB)
          · exact absurd ⟨hs', .inr (isAllocB_of hT)⟩ hjs
        · exact absurd ⟨hs', .inr (isAllocB_of hT)⟩ hjs
      · exact absurd hs hxs
    · rw [if_neg hj]
      simp only [hj] at h
      simp only [hx, if_true]
      rcases h with ⟨v, hr, hk⟩ | ⟨hc, f, args, hr, hk⟩ | ⟨T, hT, hr, hk⟩ | ⟨hs, hk⟩
      · exact .inl ⟨v, hr, by rw [← pc]; simpa using hk⟩
      · exact .inr (.inl ⟨hc, f, args, hr, fun w2 hb2 => (hk w2 hb2).mono fun e w'' ⟨v, he, hb, hk'⟩ => ⟨v, he, hb, by rw [← pc]; simpa using hk'⟩⟩)
      · exact .inr (.inr (.inl ⟨T, hT, hr, fun B hB => by rw [← pc]; simpa using hk B hB⟩))
      · exact absurd hs hxs
  · rw [if_neg hx] at h
    simp only [hx]
    by_cases hj : Region.wanted j (yielded ops a.tmps) = true
    · rw [if_pos hj] at h ⊢
      rcases h with ⟨u, hr, hk⟩ | ⟨hc, f, args, hr, hk⟩ | ⟨T, hT, hr, hk⟩ | ⟨hs, hk⟩
      · exact .inl ⟨u, hr, by rw [if_neg (by simp), ← pc]; exact hk⟩
      · exact .inr (.inl ⟨hc, f, args, hr, fun w2 hb2 => (hk w2 hb2).mono fun e w'' ⟨v, he, hb, hk'⟩ => ⟨v, he, hb, by rw [if_neg (by simp), ← pc]; exact hk'⟩⟩)
      · exact .inr (.inr (.inl ⟨T, hT, hr, fun B hB => by rw [if_neg (by simp), ← pc]; exact hk B hB⟩))
      · exact .inr (.inr (.inr ⟨hs, fun w2 hb2 hΦ => (hk w2 hb2 hΦ).imp fun w3 ⟨q1, q2, q3⟩ => ⟨q1, q2, by rw [if_neg (by simp), ← pc]; exact q3⟩⟩))
    · rw [if_neg hj] at h ⊢
      rw [if_neg (by simp), ← pc]
      exact h

/-- The walk in the order of the text. -/
def wpN (P : Program) (ops : Array Oper) (w0 : World) (S : List Nat) (Zs : TypeId → Array Value) (L : Act → World → Prop) : List Oper → Act → World → (World → Prop) → Prop
  | [], a, w, Φ => ∀ w2, Below w.heap.size w w2 → Φ w2 → L a w2
  | o :: rest, a, w, Φ => cOp P ops w0 S Zs o (wpN P ops w0 S Zs L rest) a w Φ

theorem wpN_anti {L : Act → World → Prop} : ∀ l : List Oper, AntiK (wpN P ops w0 S Zs L l)
  | [] => fun _ _ _ _ hΦ h w2 hb hw => h w2 hb (hΦ _ hw)
  | _ :: l => cOp_anti (wpN_anti l)
theorem wpN_later {L : Act → World → Prop} : ∀ l : List Oper, LaterK (wpN P ops w0 S Zs L l)
  | [] => fun _ _ _ _ hb h w2 hb2 hw => h w2 (below_thru hb hb2) hw
  | _ :: l => cOp_later (wpN_later l)

theorem wpN_pull {L : Act → World → Prop} {j : Oper} {ys : List Oper} (hsj : ∀ cs b, j.op ≠ .select cs b) : ∀ (xs : List Oper) (a : Act) (w : World) (Φ : World → Prop), Cls w0 S w →
    (∀ x ∈ xs, x.apart ops j = true ∧ (∀ cs b, x.op ≠ .select cs b) ∧ ¬ (isCallB x = true ∧ isCallB j = true) ∧ ¬ (isAllocB x = true ∧ isCallB j = true) ∧ ¬ isStoreB x = true ∧ ¬ (isStoreB j = true ∧ (isCallB x = true ∨ isAllocB x = true))) →
    wpN P ops w0 S Zs L (xs ++ j :: ys) a w Φ → cOp P ops w0 S Zs j (wpN P ops w0 S Zs L (xs ++ ys)) a w Φ
  | [], _, _, _, _, _, h => h
  | x :: xs, a, w, Φ, hw, hx, h => by
    obtain ⟨h1, h2, h3, h4, h5, h6⟩ := hx x (by simp)
    have h' : cOp P ops w0 S Zs x (wpN P ops w0 S Zs L (xs ++ j :: ys)) a w Φ := h
    exact cOp_swap h1 h2 hsj h3 h4 h5 h6 (wpN_anti _) hw (cOp_mono (fun a w Φ hw h => wpN_pull hsj xs a w Φ hw (fun y hy => hx y (by simp [hy])) h) hw h')

/-! The orders. -/
def deepB (md : Region.Mode) (ops : Array Oper) : Nat → Nat → Nat → Bool
  | 0, _, _ => false
  | f + 1, j, x => Region.waitsFor md ops j x || (List.range j).any fun y => decide (x < y) && (Region.waitsFor md ops j y && deepB md ops f y x)
/-- Each operation waits for earlier ones alone; two that are not apart, two calls, and a call behind a new variable, wait. -/
def headB (md : Region.Mode) (ops : Array Oper) (n : Nat) : Bool :=
  Region.noSelect ops && (List.range ops.size).all fun j => match ops[j]? with
    | none => true
    | some oj => (oj.after.all fun e => !Region.binds md e || decide (e.on < j)) &&
      (decide (n ≤ j) || (List.range j).all fun x => deepB md ops j j x || match ops[x]? with
        | none => true
        | some ox => ox.apart ops oj && !(isCallB ox && isCallB oj) && !(isAllocB ox && isCallB oj) && !isStoreB ox && !(isStoreB oj && (isCallB ox || isAllocB ox)))

theorem deep_listed {listed : Array Bool} (hcl : ∀ j oj, ops[j]? = some oj → listed.getD j false = true → ∀ e ∈ oj.after, Region.binds md e = true → listed.getD e.on false = true) :
    ∀ (f j x : Nat), deepB md ops f j x = true → (∀ oj, ops[j]? = some oj → ∀ e ∈ oj.after, Region.binds md e = true → listed.getD e.on false = true) → listed.getD x false = true
  | 0, _, _, h, _ => by cases h
  | f + 1, j, x, h, hj => by
    unfold deepB at h
    rw [Bool.or_eq_true] at h
    rcases h with h | h
    · obtain ⟨oj, ho, e, he, hb, hon⟩ := Region.waitsFor_spec h
      rw [← hon]; exact hj oj ho e he hb
    · obtain ⟨y, _, hy⟩ := List.any_eq_true.1 h
      simp only [Bool.and_eq_true] at hy
      obtain ⟨_, h1, h2⟩ := hy
      obtain ⟨oj, ho, e, he, hb, hon⟩ := Region.waitsFor_spec h1
      have hl : listed.getD y false = true := by rw [← hon]; exact hj oj ho e he hb
      exact deep_listed hcl f y x h2 (fun oy hoy e he hb => hcl y oy hoy hl e he hb)

theorem headB_before {n j : Nat} {oj : Oper} (h : headB md ops n = true) (hj : ops[j]? = some oj) : ∀ e ∈ oj.after, Region.binds md e = true → e.on < j := by
  intro e he hb
  unfold headB at h
  rw [Bool.and_eq_true] at h
  have h1 := List.all_eq_true.1 h.2 j (List.mem_range.2 (Array.getElem?_eq_some_iff.1 hj).1)
  simp only [hj, Bool.and_eq_true] at h1
  have h2 := Array.all_eq_true_iff_forall_mem.1 h1.1 e he
  simpa [hb] using h2

theorem headB_swap {n j x : Nat} {oj ox : Oper} (h : headB md ops n = true) (hj : ops[j]? = some oj) (hx : ops[x]? = some ox) (hjn : j < n) (hxj : x < j) :
    deepB md ops j j x = true ∨ (ox.apart ops oj = true ∧ ¬ (isCallB ox = true ∧ isCallB oj = true) ∧ ¬ (isAllocB ox = true ∧ isCallB oj = true) ∧ ¬ isStoreB ox = true ∧ ¬ (isStoreB oj = true ∧ (isCallB ox = true ∨ isAllocB ox = true))) := by
  unfold headB at h
  rw [Bool.and_eq_true] at h
  have h1 := List.all_eq_true.1 h.2 j (List.mem_range.2 (Array.getElem?_eq_some_iff.1 hj).1)
  simp only [hj, Bool.and_eq_true, Bool.or_eq_true, decide_eq_true_eq] at h1
  have h2 := h1.2.resolve_left (by omega)
  have h3 := List.all_eq_true.1 h2 x (List.mem_range.2 hxj)
  simp only [hx, Bool.or_eq_true, Bool.and_eq_true, Bool.not_eq_true'] at h3
  rcases h3 with h3 | h3
  · exact .inl h3
  · obtain ⟨⟨⟨⟨h4, h5⟩, h6⟩, h7⟩, h8⟩ := h3
    refine .inr ⟨h4, fun hh => ?_, fun hh => ?_, fun hh => ?_, fun hh => ?_⟩
    · rw [hh.1, hh.2] at h5; cases h5
    · rw [hh.1, hh.2] at h6; cases h6
    · rw [hh] at h7; cases h7
    · rw [hh.1] at h8
      rcases hh.2 with h9 | h9 <;> rw [h9] at h8 <;> simp at h8

/-- The operations of the head that have not come up. -/
def remI (listed : Array Bool) (n : Nat) : List Nat := (List.range n).filter fun i => !(listed.getD i true)
def remL (ops : Array Oper) (listed : Array Bool) (n : Nat) : List Oper := (remI listed n).filterMap fun i => ops[i]?

theorem range_split {i n : Nat} (h : i < n) : List.range n = List.range i ++ i :: (List.range (n - (i + 1))).map (fun k => i + 1 + k) := by
  have e : n = i + 1 + (n - (i + 1)) := by omega
  rw [show List.range n = List.range (i + 1 + (n - (i + 1))) from congrArg _ e, List.range_add, List.range_succ]
  simp

theorem rem_split {listed : Array Bool} {n i : Nat} (hi : i < n) (hs : i < listed.size) (hun : listed.getD i true = false) :
    ∃ pre post, remI listed n = pre ++ i :: post ∧ remI (listed.setIfInBounds i true) n = pre ++ post ∧ ∀ x ∈ pre, x < i ∧ listed.getD x true = false := by
  refine ⟨(List.range i).filter (fun k => !(listed.getD k true)), ((List.range (n - (i + 1))).map (fun k => i + 1 + k)).filter (fun k => !(listed.getD k true)), ?_, ?_, ?_⟩
  · unfold remI
    rw [range_split hi, List.filter_append, List.filter_cons_of_pos (by rw [hun]; rfl)]
  · unfold remI
    rw [range_split hi, List.filter_append, List.filter_cons_of_neg (by
      rw [getD_in_set hs]; simp)]
    congr 1
    · refine List.filter_congr fun k hk => ?_
      rw [getD_set_ne true (by have := List.mem_range.1 hk; omega)]
    · refine List.filter_congr fun k hk => ?_
      obtain ⟨q, _, rfl⟩ := List.mem_map.1 hk
      rw [getD_set_ne true (by omega)]
  · intro x hx
    obtain ⟨h1, h2⟩ := List.mem_filter.1 hx
    exact ⟨List.mem_range.1 h1, by simpa using h2⟩
where
  getD_in_set {listed : Array Bool} {i : Nat} (hs : i < listed.size) : (listed.setIfInBounds i true).getD i true = true := by simp [hs]

theorem any_of_N {n g : Nat} {L : Act → World → Prop} {Q' : Exit → Act → World → Prop} (hB : headB md ops n = true) (hn : n ≤ ops.size)
    (hT : ∀ listed, HeadInv md ops n listed → (∃ i, i < n ∧ listed.getD i true = false) → ∀ j ∈ Region.ready md ops listed, j < n)
    (hL : ∀ listed a w, HeadInv md ops n listed → remI listed n = [] → L a w → wpAny P md ops Q' g listed a w) :
    ∀ (f : Nat) (listed : Array Bool) (a : Act) (w : World) (Φ : World → Prop), HeadInv md ops n listed → (remI listed n).length = f → Cls w0 S w → Φ w → (∀ w w', Φ w → Below w.heap.size w w' → Φ w') →
      wpN P ops w0 S Zs L (remL ops listed n) a w Φ → wpAny P md ops Q' (f + g) listed a w
  | 0, listed, a, w, Φ, inv, hlen, _, hΦ, _, h => by
    have he : remI listed n = [] := List.eq_nil_of_length_eq_zero hlen
    rw [Nat.zero_add]
    unfold remL at h
    rw [he] at h
    exact hL _ _ _ inv he (h w (Below.refl _ _) hΦ)
  | f + 1, listed, a, w, Φ, inv, hlen, hw, hΦ, hst, h => by
    have hsel : ∀ (j : Nat) (o : Oper) cs b, ops[j]? = some o → o.op ≠ .select cs b := by
      unfold headB at hB
      rw [Bool.and_eq_true] at hB
      exact Region.noSelect_spec hB.1
    have hex : ∃ i, i < n ∧ listed.getD i true = false := by
      cases hr : remI listed n with
      | nil => rw [hr] at hlen; cases hlen
      | cons i r =>
        have hm : i ∈ remI listed n := by rw [hr]; simp
        obtain ⟨h1, h2⟩ := List.mem_filter.1 hm
        exact ⟨i, List.mem_range.1 h1, by simpa using h2⟩
    rw [show f + 1 + g = (f + g) + 1 by omega]
    refine ⟨fun h0 => ?_, fun i hi => ?_⟩
    · exfalso
      obtain ⟨i, hin, hun⟩ := hex
      have key : ∀ d i, i ≤ d → i < n → listed.getD i true = false → ∃ k, k ∈ Region.ready md ops listed := by
        intro d
        induction d with
        | zero =>
          intro i hid hin hun
          obtain rfl : i = 0 := by omega
          obtain ⟨o, ho⟩ : ∃ o, ops[0]? = some o := ⟨_, Array.getElem?_eq_getElem (by omega)⟩
          exact ⟨0, mem_ready.2 ⟨hun, o, ho, fun e he hb => absurd (headB_before hB ho e he hb) (by omega)⟩⟩
        | succ d ih =>
          intro i hid hin hun
          obtain ⟨o, ho⟩ : ∃ o, ops[i]? = some o := ⟨_, Array.getElem?_eq_getElem (by omega)⟩
          by_cases hall : ∀ e ∈ o.after, Region.binds md e = true → listed.getD e.on false = true
          · exact ⟨i, mem_ready.2 ⟨hun, o, ho, hall⟩⟩
          · obtain ⟨e, he⟩ := Classical.not_forall.1 hall
            obtain ⟨hem, he⟩ := Classical.not_forall.1 he
            obtain ⟨heb, he⟩ := Classical.not_forall.1 he
            have hlt := headB_before hB ho e hem heb
            have hf : listed.getD e.on false = false := by simpa using he
            exact ih e.on (by omega) (by omega) (getD_in (by rw [inv.size]; omega) hf)
      obtain ⟨k, hk⟩ := key i i (Nat.le_refl _) hin hun
      rw [h0] at hk
      cases hk
    · have hin := hT _ inv hex i hi
      obtain ⟨hun, oi, hoi, hall⟩ := mem_ready.1 hi
      obtain ⟨pre, post, e1, e2, hpre⟩ := rem_split hin (by rw [inv.size]; omega) hun
      have f1 : remL ops listed n = pre.filterMap (fun k => ops[k]?) ++ oi :: post.filterMap (fun k => ops[k]?) := by
        unfold remL; rw [e1, List.filterMap_append, List.filterMap_cons_some hoi]
      have f2 : remL ops (listed.setIfInBounds i true) n = pre.filterMap (fun k => ops[k]?) ++ post.filterMap (fun k => ops[k]?) := by
        unfold remL; rw [e2, List.filterMap_append]
      rw [f1] at h
      have hp := wpN_pull (fun cs b => hsel i oi cs b hoi) _ _ _ _ hw (fun x hx => by
        obtain ⟨k, hk, hkx⟩ := List.mem_filterMap.1 hx
        obtain ⟨hki, hku⟩ := hpre k hk
        rcases headB_swap hB hoi hkx hin hki with hd | ⟨h1, h2, h3, h4, h5⟩
        · exfalso
          have := deep_listed inv.closed i i k hd (fun oj hoj e he hb => by
            have : oj = oi := Option.some.inj (hoj.symm.trans hoi)
            subst this
            exact hall e he hb)
          rw [getD_both hku] at this
          cases this
        · exact ⟨h1, fun cs b => hsel k x cs b hkx, h2, h3, h4, h5⟩) h
      have inv' : HeadInv md ops n (listed.setIfInBounds i true) := inv.set hi hin
      have hlen' : (remI (listed.setIfInBounds i true) n).length = f := by
        rw [e2]; rw [e1] at hlen
        simp only [List.length_append, List.length_cons] at hlen ⊢
        omega
      have go : ∀ a' w' Φ', Cls w0 S w' → Φ' w' → (∀ w w', Φ' w → Below w.heap.size w w' → Φ' w') → wpN P ops w0 S Zs L (pre.filterMap (fun k => ops[k]?) ++ post.filterMap (fun k => ops[k]?)) a' w' Φ' →
          wpAny P md ops Q' (f + g) (listed.setIfInBounds i true) a' w' := fun a' w' Φ' hw' hΦ' hst' h' =>
        any_of_N hB hn hT hL f _ a' w' Φ' inv' hlen' hw' hΦ' hst' (by rw [f2]; exact h')
      unfold wpOp
      simp only [hoi]
      unfold cOp at hp
      split
      · rename_i hwd
        rw [if_pos hwd] at hp
        refine .inl ?_
        rcases hp with ⟨v, hr, hk⟩ | ⟨hc, fn, args, hr, hk⟩ | ⟨T, hTa, hr, hk⟩ | ⟨hs, hk⟩
        · unfold Oper.wp
          rw [hr w hw]
          exact go _ _ _ hw hΦ hst hk
        · unfold Oper.wp
          rw [hr w hw]
          refine (hk w (Below.refl _ _)).mono fun e w'' ⟨v, he, hb, hk'⟩ => ?_
          subst he
          exact go _ _ _ (below_on hw hb) (hst _ _ hΦ hb) hst hk'
        · unfold Oper.wp
          rw [hr w]
          have hal : Below w.heap.size w (w.alloc (.cells (Zs T) T)) := (Below.refl _ _).alloc (Nat.le_refl _) _
          refine go _ _ _ (below_on hw hal) ⟨hst _ _ hΦ hal, by simp, Blk.new w _ _⟩ (fun u u' hu hb => ⟨hst _ _ hu.1 hb, Nat.lt_of_lt_of_le hu.2.1 hb.size, hu.2.2.later hb⟩) (wpN_later _ _ _ _ _ hal (hk _ hw.size))
        · obtain ⟨w3, q1, q2, q3⟩ := hk w (Below.refl _ _) hΦ
          unfold Oper.wp
          rw [q1]
          exact go _ _ _ q2 trivial (fun _ _ _ _ => trivial) q3
      · rename_i hwd
        rw [if_neg hwd] at hp
        exact go _ _ _ hw hΦ hst hp

theorem rem_start (m : Nat) {n : Nat} (h : n ≤ m) : remI (Array.replicate m false) n = List.range n := by
  unfold remI
  refine List.filter_eq_self.2 fun i hi => ?_
  have := List.mem_range.1 hi
  simp [show i < m by omega]
theorem rem_take {l : List Oper} {n : Nat} (h : n ≤ l.length) : (List.range n).filterMap (fun i => l.toArray[i]?) = l.take n := by
  induction n with
  | zero => rfl
  | succ n ih =>
    rw [List.range_succ, List.filterMap_append, ih (by omega), List.take_add_one]
    simp [show n < l.length by omega]
theorem below_drew1 (w : World) : Below w.heap.size w { w with drawn := w.drawn + 1 } := ⟨rfl, rfl, rfl, Nat.le_refl _, fun _ _ => rfl⟩

/-- THE REGION. -/
theorem wp_chain {id : Nat} {Q : Exit → Act → World → Prop} {a : Act} {w : World} {l : List Oper} (S : List Nat) (Zs : TypeId → Array Value) (hm : P.follows .mixedOrders = true) (hB : headB .any l.toArray l.length = true)
    (h : wpN P l.toArray w S Zs (fun a' w' => Q .normal a' w') l a w (fun _ => True)) : (Code.region id l.toArray true).wp P Q a w := by
  refine wp_region_any hm ?_
  have inv0 : HeadInv .any l.toArray l.length (Array.replicate l.toArray.size false) :=
    ⟨by simp, fun j oj _ hl => (by rw [getD_replicate_false] at hl; cases hl), fun t ht ht' => absurd ht' (by simp; omega)⟩
  have hr : remI (Array.replicate l.toArray.size false) l.length = List.range l.length := rem_start _ (by simp)
  have := any_of_N (P := P) (w0 := w) (S := S) (Zs := Zs) (g := 0) (L := fun a' w' => Q .normal a' w') (Q' := Q) hB (by simp) (fun listed inv _ j hj => by
      obtain ⟨_, o, ho, _⟩ := mem_ready.1 hj
      have := (Array.getElem?_eq_some_iff.1 ho).1
      simpa using this) (fun listed a' w' inv he hL => ⟨by
      refine List.eq_nil_iff_forall_not_mem.2 fun j hj => ?_
      obtain ⟨hu, o, ho, _⟩ := mem_ready.1 hj
      have hjl : j < l.length := by have := (Array.getElem?_eq_some_iff.1 ho).1; simpa using this
      have : j ∈ remI listed l.length := List.mem_filter.2 ⟨List.mem_range.2 hjl, by rw [hu]; rfl⟩
      rw [he] at this; exact absurd this (by simp), hL⟩) l.length _ a { w with drawn := w.drawn + 1 } (fun _ => True) inv0 (by rw [hr]; simp) (Cls.of_below (below_drew1 w)) trivial (fun _ _ _ _ => trivial)
    (by unfold remL; rw [hr, rem_take (Nat.le_refl _), List.take_length]; exact wpN_later _ _ _ _ _ (below_drew1 w) h)
  simpa using this

/-- A step, in the form that the walk's simp takes. -/
theorem n_step {L : Act → World → Prop} {a : Act} {w : World} {Φ : World → Prop} {o : Oper} {rest : List Oper}
    (h : ∀ K : Act → World → Prop, (∀ a w, wpN P ops w0 S Zs L rest a w Φ → K a w) → if Region.wanted o (yielded ops a.tmps) = true then (((∃ v, (∀ x : ExtS w0 S, (execOp a.eval o).run P (extS w0 S x) = .ok (.value v) (extS w0 S x)) ∧ K (a.put o.dst v) w) ∨
      (∃ f args, (∀ x : ExtS w0 S, (execOp a.eval o).run P (extS w0 S x) = .ok (.enter f args) (extS w0 S x)) ∧ isCallB o = true ∧
        ∀ w2, Below w.heap.size w w2 → Calls P f args w2 (fun e w'' => ∃ v, e = .returned v ∧ Below w2.heap.size w2 w'' ∧ K (a.put o.dst v) w'')))) else K (a.put o.dst undef) w) : wpN P ops w0 S Zs L (o :: rest) a w Φ := by
  have h := h _ (fun _ _ h => h)
  show cOp P ops w0 S Zs o _ a w Φ
  unfold cOp
  split
  · rename_i hw
    rw [if_pos hw] at h
    rcases h with ⟨v, hr, hk⟩ | ⟨f, args, hr, hc, hk⟩
    · exact .inl ⟨v, fun w' hw' => hr ⟨w', hw'⟩, hk⟩
    · exact .inr (.inl ⟨hc, f, args, fun w' hw' => hr ⟨w', hw'⟩, hk⟩)
  · rename_i hw
    rw [if_neg hw] at h
    exact h

theorem n_value {L : Act → World → Prop} {a : Act} {w : World} {Φ : World → Prop} {o : Oper} {rest : List Oper} (v : Value) (hg : o.guard = none) (hr : ∀ w', Cls w0 S w' → (execOp a.eval o).run P w' = .ok (.value v) w')
    (h : wpN P ops w0 S Zs L rest (a.put o.dst v) w Φ) : wpN P ops w0 S Zs L (o :: rest) a w Φ := by
  show cOp P ops w0 S Zs o _ a w Φ
  unfold cOp
  rw [if_pos (by simp [Region.wanted, hg])]
  exact .inl ⟨v, hr, h⟩

theorem n_get {L : Act → World → Prop} {a : Act} {w : World} {Φ : World → Prop} {rest : List Oper} {dst : Option Tmp} {T ty t : TypeId} {X : Operand} {pos : String} {after : Array Edge} {g : Nat} {cells : Array Value} {d : TypeDesc} (hg : Blk w0 g cells t) (hgS : g ∉ S)
    (hu : P.underlying T = some d) (hd : (match d with | .struct _ | .array _ _ => true | _ => false) = true) (hi : (P.info? T).map (·.size) = some cells.size) (hx : a.eval X = .pointer (some ⟨g, 0, none⟩))
    (h : wpN P ops w0 S Zs L rest (a.put dst (.agg cells)) w Φ) : wpN P ops w0 S Zs L (⟨dst, .load T X, ty, pos, after, none⟩ :: rest) a w Φ :=
  n_value (.agg cells) rfl (fun w' hw' => by
    have := run_loadVar_row w' g t _ _ _ _ (hw'.blk hg hgS) hu hd hi
    simp only [execOp, hx, Instr.loadAt, Instr.sureAddr]
    simp [this]) h

theorem n_alloc {L : Act → World → Prop} {a : Act} {w : World} {Φ : World → Prop} {rest : List Oper} {dst : Option Tmp} {T ty : TypeId} {pos : String} {after : Array Edge}
    (hr : ∀ w : World, (Instr.alloc T true (.tuple #[])).run P w = .ok (.pointer (some ⟨w.heap.size, 0, none⟩)) (w.alloc (.cells (Zs T) T)))
    (h : ∀ B, w0.heap.size ≤ B → wpN P ops w0 S Zs L rest (a.put dst (.pointer (some ⟨B, 0, none⟩))) w fun w' => Φ w' ∧ B < w'.heap.size ∧ Blk w' B (Zs T) T) : wpN P ops w0 S Zs L (⟨dst, .alloc T, ty, pos, after, none⟩ :: rest) a w Φ := by
  show cOp P ops w0 S Zs _ _ a w Φ
  unfold cOp
  rw [if_pos (by simp [Region.wanted])]
  exact .inr (.inr (.inl ⟨T, rfl, fun w' => by simp [execOp, hr], h⟩))

/-- A variable of the region's own is stored whole. -/
theorem n_put {L : Act → World → Prop} {a : Act} {w : World} {Φ : World → Prop} {rest : List Oper} {dst : Option Tmp} {T ty t : TypeId} {X Y : Operand} {pos : String} {after : Array Edge} {g : Nat} {cells old : Array Value}
    (hb : ∀ w2, Below w.heap.size w w2 → Φ w2 → Blk w2 g old t) (hg : w0.heap.size ≤ g ∨ g ∈ S) (hw : Cls w0 S w) (hi : (P.info? T).map (·.size) = some cells.size) (ho : old.size = cells.size) (h1 : cells.all (·.oneCell') = true)
    (hx : a.eval X = .pointer (some ⟨g, 0, none⟩)) (hy : a.eval Y = .agg cells)
    (h : ∀ w2 w3, Below w.heap.size w w2 → Φ w2 → Blk w3 g cells t → w2.grownBy w3 (some g) → Cls w0 S w3 → wpN P ops w0 S Zs L rest (a.put dst undef) w3 fun _ => True) : wpN P ops w0 S Zs L (⟨dst, .store T X Y, ty, pos, after, none⟩ :: rest) a w Φ := by
  show cOp P ops w0 S Zs _ _ a w Φ
  unfold cOp
  rw [if_pos (by simp [Region.wanted])]
  refine .inr (.inr (.inr ⟨rfl, fun w2 hb2 hΦ => ?_⟩))
  have hgr : w2.grownBy (w2.setRow g cells) (some g) := ⟨rfl, rfl, rfl, by simp, fun k _ hk => setRow_other w2 g k cells (fun e => hk (by rw [e]))⟩
  have hb3 : Cls w0 S (w2.setRow g cells) := (below_on hw hb2).grown hgr hg
  refine ⟨w2.setRow g cells, ?_, hb3, h w2 _ hb2 hΦ ((hb w2 hb2 hΦ).row_same cells) hgr hb3⟩
  have := run_storeVar_row (P := P) w2 g t T old cells (hb w2 hb2 hΦ) hi ho h1
  simp only [execOp, hx, hy, Instr.storeAt, Instr.sureAddr]
  simp [this]

theorem n_nil {L : Act → World → Prop} {a : Act} {w : World} {Φ : World → Prop} (h : ∀ w2, Below w.heap.size w w2 → Φ w2 → L a w2) : wpN P ops w0 S Zs L [] a w Φ := h
end
attribute [irreducible] wpN
end Go.Proofs.Ytfcphfdfpjmgiaa

namespace Go.Proofs.Ytfcphfdfpjmgiaa
open Go.RowKit

/-- A list of floats in a block of its own. -/
def FLB (w : World) (gq cap : Nat) (l : List Nat) : Prop :=
  ∃ cur : Array Value, Blk w gq cur 25 ∧ cur.size = cap ∧ l.length ≤ cap ∧ ∀ j b : Nat, l[j]? = some b → cur[j]? = some (.float .f32 b)
theorem flb_of {w : World} {base : Nat} {v : Value} {l : List Nat} (h : w.ownsRow base 25 1 v l.length (flts l)) (hne : l ≠ []) :
    ∃ gq cap, v = .slice (some ⟨gq, 0, none⟩) l.length cap ∧ base ≤ gq ∧ FLB w gq cap l := by
  obtain ⟨h1, h2 | ⟨g, cap, cur, rfl, hb, hg, hn, hm, hs, ht⟩⟩ := h
  · exact absurd (List.eq_nil_of_length_eq_zero h2.2) hne
  · refine ⟨g, cap, rfl, hb, cur, hg, by omega, hn, fun j c hc => ?_⟩
    have hj : j < l.length := (List.getElem?_eq_some_iff.1 hc).1
    have e : (cur.toList.take (l.length * 1))[j]? = (flts l)[j]? := by rw [ht]
    rw [List.getElem?_take, if_pos (by omega), Array.getElem?_toList] at e
    rw [e]; simp [flts, hc]
theorem FLB.list {w : World} {gq cap : Nat} {l : List Nat} (h : FLB w gq cap l) : FListAt w (.slice (some ⟨gq, 0, none⟩) l.length cap) l := by
  obtain ⟨cur, h1, h2, h3, h4⟩ := h
  exact ⟨_, cap, rfl, h3, fun j c hc => ⟨gq, rfl, h1.at (h4 j c hc)⟩⟩
theorem sumB_of {d : Nat → F} {l cs : List Nat} (h : l.map fb = cs.map d) : sumB l = sumF d cs := by
  cases l with
  | nil => cases cs with
    | nil => rfl
    | cons c cs => cases h
  | cons x r => cases cs with
    | nil => cases h
    | cons c cs =>
      simp only [List.map_cons, List.cons.injEq] at h
      show r.foldl (fun a y => fadd a (fb y)) (fb x) = cs.foldl (fun a y => fadd a (d y)) (d c)
      rw [← List.foldl_map, ← List.foldl_map (f := d), h.1, h.2]
def saltD (n : N) (c : Nat) : F := fmul (n.s c) n.room
def saltR (n : N) : F × Int := if okB n then toldR (sumF (saltD n) (cellsM n.g)) else (some 0, 1)

def SaltRel (x : Br) (cs : List Nat) (w : World) (gq cap : Nat) (v16 : Value) (wr : World) : Prop :=
  ∃ (j : Nat) (l : List Nat), j ≤ cs.length ∧ v16 = .int .i64 j ∧ l.length = cs.length ∧
    (∀ i c : Nat, cs[i]? = some c → ∃ r, l[i]? = some r ∧ (i < j → Is r (saltD x.n c)) ∧ (j ≤ i → r = x.s c)) ∧ FLB wr gq cap l ∧ w.grownBy wr (some gq)

set_option maxRecDepth 100000 in
set_option maxHeartbeats 1600000 in
theorem SaltIn_any (x : Br) (w : World) (hr : x.gr.Rng) (hx : x.gr.Fx) :
    Calls Try.prog 42 #[.agg (arrB x)] w (RetFI (saltR x.n).1 (saltR x.n).2 w) := by
  cases hok : okB x.n
  · have HW : Hid (saltR x.n = (some 0, 1)) := by show _ = _; unfold saltR; rw [hok]; rfl
    have HOK := Lib.hid hok
    clear hok
    go_enter Try.func42, Try.ntmps42
    go_wp2_with (with_reducible refine wpList_box rfl ?_)
    intro b w1 hB1 hB2 hB3 hB4
    go_wp2_with ((with_reducible refine wpList_getB hB3 ?_ ?_); rfl)
    refine (ValidBrine_any x w1 hr hx).mono ?_
    rw [HOK.out]
    rintro e w3 ⟨rfl, hb3⟩
    have HB := Lib.hid (hB4.trans (hb3.mono hB4.size))
    clear hB3 hB4 hb3
    go_wp2_with fail
    go_ret2
    exact ⟨0, by rw [HW.out]; rfl, by rw [HW.out]; exact fb0, HB.out⟩
  · have hs := sane_of (okB_g hok) hx
    have HW : Hid (saltR x.n = toldR (sumF (saltD x.n) (cellsM x.gr.m))) := by show _ = _; unfold saltR; rw [hok]; rfl
    have HOK := Lib.hid hok
    clear hok
    go_enter Try.func42, Try.ntmps42
    go_wp2_with (with_reducible refine wpList_box rfl ?_)
    intro b w1 hB1 hB2 hB3 hB4
    go_wp2_with ((with_reducible refine wpList_getB hB3 ?_ ?_); rfl)
    refine (ValidBrine_any x w1 hr hx).mono ?_
    rw [HOK.out]
    rintro e w3 ⟨rfl, hb3⟩
    have HX3 := Lib.hid ((BAt.of_blk hB3).below hb3)
    have HB := Lib.hid (hB4.trans (hb3.mono hB4.size))
    clear hB3 hB4 hb3
    go_wp2_with fail
    refine (cells_any b 0 x.gr w3 hr HX3.out.g).mono ?_
    rintro e w4 ⟨v, rfl, hown, hb4⟩
    have hL := listAt_of hown
    have HX4 := Lib.hid (HX3.out.below hb4)
    have HB4 := Lib.hid (HB.out.trans (hb4.mono HB.out.size))
    clear hown hb4
    go_wp2_with fail
    refine (at_at b 195 v (cellsTo x.gr.wide x.gr.high 64) x.s w4 (fun c hc => cellsTo_lt hc) (cellsTo_length _ _ _) hL HX4.out.fs).mono ?_
    rintro e w5 ⟨v5, rfl, hown, hb5⟩
    have hne : (cellsTo x.gr.wide x.gr.high 64).map x.s ≠ [] := by
      intro h
      exact cells_ne (m := x.gr.m) hs.lW hs.lH (List.map_eq_nil_iff.1 h)
    obtain ⟨gq, cap, rfl, hgq, hflb⟩ := flb_of hown hne
    have HX5 := Lib.hid (HX4.out.below hb5)
    have HB5 := Lib.hid (HB4.out.trans (hb5.mono HB4.out.size))
    have HFL := Lib.hid hflb
    have hbg : b < gq := by have := HX4.out.lt; omega
    have hwg : w.heap.size ≤ gq := by have := HB4.out.size; omega
    have hlen : (cellsTo x.gr.wide x.gr.high 64).length ≤ 64 := cellsTo_length _ _ _
    clear hown hb5 hL hne hflb
    rw [List.length_map]
    go_wp2_with fail
    go_loopw [16] (fun v16 wr => SaltRel x (cellsTo x.gr.wide x.gr.high 64) w5 gq cap v16 wr) (fun v16 _ => (cellsTo x.gr.wide x.gr.high 64).length - (intOf v16).toNat)
    case atStart => exact ⟨0, _, by omega, rfl, by rw [List.length_map], fun i c hc => ⟨x.s c, by rw [List.getElem?_map, hc]; rfl, fun h => absurd h (by omega), fun _ => rfl⟩, HFL.out, grown_refl _ _⟩
    case round =>
      obtain ⟨j, l, hj, rfl, hll, hlc, hfl, hgr⟩ := hrel
      have HGR := Lib.hid hgr
      have HLC := Lib.hid hlc
      have HF := Lib.hid hfl
      have HX := Lib.hid (HX5.out.grown hgr (by omega))
      have HLL := Lib.hid hll
      clear hgr hlc hfl
      by_cases hlt : j < (cellsTo x.gr.wide x.gr.high 64).length
      · obtain ⟨c, hc⟩ : ∃ c, (cellsTo x.gr.wide x.gr.high 64)[j]? = some c := ⟨_, List.getElem?_eq_getElem hlt⟩
        have hc64 : c < 64 := cellsTo_lt (List.mem_of_getElem? hc)
        have hj64 : j < 64 := by omega
        obtain ⟨r0, hr0, _, hr2⟩ := HLC.out j c hc
        obtain rfl := hr2 (Nat.le_refl _)
        obtain ⟨cur, hblk, hcs, hlcap, hcur⟩ := HF.out
        have hcell := hblk.at (hcur j _ hr0)
        have hroom := HX.out.room
        have HBLK := Lib.hid hblk
        have HCUR := Lib.hid hcur
        have HC := Lib.hid hc
        have hjc : j < cur.size := by omega
        have j1 : (j : Int) < ((cellsTo x.gr.wide x.gr.high 64).length : Int) := by omega
        clear hc hr0 hr2 hblk hcur hll
        go_wp2_with (first | ((with_reducible refine wpList_gate ?_); refine wpList_arith _ _ rfl rfl rfl ?_; intro r n hr) | ((with_reducible refine wpList_gateS ?_); refine wpList_put1 size32 (HBLK.out.drewN _) hjc rfl rfl rfl rfl ?_))
        intro w7 s7 b7 k7
        have HK7 := Lib.hid (grown_trans (grown_trans HGR.out (grown_drewN _ _ _)) k7 : w5.grownBy w7 (some gq))
        have H7 : Hid (Blk w7 gq (cur.setIfInBounds j (.float .f32 r)) 25) := b7
        have HR : Hid (Is r (saltD x.n c)) := by
          show fb r = fmul (fm x.s c) (fb x.room)
          rw [hr.out, fop, fm_of hc64]
        clear k7 b7 hr
        go_wp2_with fail
        go_roundw
        case rel =>
          refine ⟨j + 1, l.set j r, by omega, by go_num, by rw [List.length_set]; exact HLL.out, fun i c' hc' => ?_, ⟨_, H7.out, by rw [Array.size_setIfInBounds]; exact hcs, by rw [List.length_set]; exact hlcap, fun i q hq => ?_⟩, HK7.out⟩
          · obtain ⟨q, h1, h2, h3⟩ := HLC.out i c' hc'
            by_cases e : i = j
            · subst e
              rw [HC.out] at hc'
              cases hc'
              refine ⟨r, ?_, fun _ => HR.out, fun h => absurd h (by omega)⟩
              rw [List.getElem?_set, if_pos rfl, if_pos (by rw [HLL.out]; exact hlt)]
            · refine ⟨q, ?_, fun h => h2 (by omega), fun h => h3 (by omega)⟩
              rw [List.getElem?_set, if_neg (fun x => e x.symm)]; exact h1
          · rw [List.getElem?_set] at hq
            by_cases e : j = i
            · subst e
              rw [if_pos rfl, if_pos (by rw [HLL.out]; exact hlt)] at hq
              cases hq
              rw [Array.getElem?_setIfInBounds, if_pos rfl, if_pos hjc]
            · rw [if_neg e] at hq
              rw [Array.getElem?_setIfInBounds, if_neg e]
              exact HCUR.out i q hq
        case measure => simp [intOf]; omega
      · have hjn : j = (cellsTo x.gr.wide x.gr.high 64).length := by omega
        have j1 : ¬ (j : Int) < ((cellsTo x.gr.wide x.gr.high 64).length : Int) := by omega
        have HM : Hid (l.map fb = (cellsTo x.gr.wide x.gr.high 64).map (saltD x.n)) := by
          show _ = _
          apply List.ext_getElem?
          intro i
          rw [List.getElem?_map, List.getElem?_map]
          by_cases hi : i < (cellsTo x.gr.wide x.gr.high 64).length
          · obtain ⟨c, hc⟩ : ∃ c, (cellsTo x.gr.wide x.gr.high 64)[i]? = some c := ⟨_, List.getElem?_eq_getElem hi⟩
            obtain ⟨q, h1, h2, _⟩ := HLC.out i c hc
            rw [hc, h1]
            exact congrArg some (h2 (by omega)).out
          · rw [List.getElem?_eq_none (by rw [HLL.out]; omega), List.getElem?_eq_none (by omega)]; rfl
        have HLs := HF.out.list
        rw [HLL.out] at HLs
        have HBw := Lib.hid (below_grown HB5.out HGR.out HB5.out.size hwg)
        clear hjn hll
        go_wp2_with fail
        refine (sum_any _ l wr (by rw [HLL.out]; exact hlen) HLs).mono ?_
        rintro e w10 ⟨r, rfl, hr10, hb10⟩
        have HB10 := Lib.hid (HBw.out.trans (hb10.mono HBw.out.size))
        have HR : Hid (Is r (sumF (saltD x.n) (cellsM x.gr.m))) := by
          show fb r = _
          rw [hr10.out]; exact sumB_of HM.out
        clear hb10 hr10 HLs
        go_wp2_with fail
        obtain ⟨zc, hzc⟩ : ∃ zc : Int, (if fin (sumF (saltD x.n) (cellsM x.gr.m)) then (0 : Int) else 4) = zc := ⟨_, rfl⟩
        have HZ := Lib.hid hzc
        refine (told_any r _ w10 HR.out).mono ?_
        rw [hzc]
        clear hzc
        rintro e w14 ⟨r4, rfl, hr4, hb4⟩
        have HB4 := Lib.hid (HB10.out.trans (hb4.mono HB10.out.size))
        clear hb4
        go_wp2_with fail
        go_ret2
        exact ⟨r4, by rw [HW.out]; show _ = Ending.returned (.tuple #[_, .int _ (if fin (sumF (saltD x.n) (cellsM x.gr.m)) then (0 : Int) else 4)]); rw [HZ.out]; rfl, by rw [HW.out]; exact hr4, HB4.out⟩

def SaltRelS (n : N) (w : World) (v4 v5 : Value) (wr : World) : Prop :=
  ∃ k a : Nat, 1 ≤ k ∧ k ≤ 64 ∧ v5 = .int .i64 k ∧ v4 = .float .f32 a ∧ Is a (sumF (saltD n) (cellsTo n.g.wide n.g.high k)) ∧ Below w.heap.size w wr
theorem cells_first {W H : Int} (hW : 2 ≤ W) (hH : 2 ≤ H) : cellsTo W H 1 = [0] := by
  unfold cellsTo
  simp [List.range_succ, has0 hW hH]
theorem cells_some {W H : Int} (hW : 2 ≤ W) (hH : 2 ≤ H) {k : Nat} (hk : 1 ≤ k) : (cellsTo W H k).isEmpty = false := by
  have : 0 ∈ cellsTo W H k := by
    unfold cellsTo
    exact List.mem_filter.2 ⟨List.mem_range.2 (by omega), has0 hW hH⟩
  cases h : cellsTo W H k with
  | nil => rw [h] at this; cases this
  | cons _ _ => rfl

end Go.Proofs.Ytfcphfdfpjmgiaa

namespace Go.Proofs.Ytfcphfdfpjmgiaa
open Go.RowKit

theorem near2 {e Z U : Rat} (n1 : e - Z ≤ Z / 8388608 + U) (n2 : Z - e ≤ Z / 8388608 + U) (hu : U ≤ 1 / 1000000000000) : Z - Z * (3 / 25000000) - 1 / 1000000000000 ≤ e ∧ e ≤ Z + Z * (3 / 25000000) + 1 / 1000000000000 ∨ Z < 0 := by
  by_cases h : 0 ≤ Z
  · left; constructor <;> grind
  · right; grind
theorem mul_near {x y : F} {p q B : Rat} (hx : RV x p) (hy : RV y q) (h0 : 0 ≤ p * q) (hB : p * q ≤ B) (hB1 : B ≤ 1000000000000000000) : ∃ r, RV (fmul x y) r ∧ 0 ≤ r ∧ p * q - p * q * (3 / 25000000) - 1 / 1000000000000 ≤ r ∧ r ≤ p * q + p * q * (3 / 25000000) + 1 / 1000000000000 := by
  obtain ⟨r, hr, hn, h3, h4⟩ := hx.mul hy (by grind) (by grind)
  obtain ⟨n1, n2⟩ := hn (p * q) Rat.le_refl (by grind)
  rcases near2 n1 n2 (by have := uQ_big; grind) with ⟨a, b⟩ | h
  · exact ⟨r, hr, h4 _ _ rv_zero h0, a, b⟩
  · grind
theorem add_near {x y : F} {p q B : Rat} (hx : RV x p) (hy : RV y q) (h0 : 0 ≤ p) (h1 : 0 ≤ q) (hB : p + q ≤ B) (hB1 : B ≤ 1000000000000000000) : ∃ r, RV (fadd x y) r ∧ 0 ≤ r ∧ p + q - (p + q) * (3 / 25000000) - 1 / 1000000000000 ≤ r ∧ r ≤ p + q + (p + q) * (3 / 25000000) + 1 / 1000000000000 := by
  obtain ⟨r, hr, hn, h3, h4⟩ := hx.add hy (by grind) (by grind)
  obtain ⟨n1, n2⟩ := hn (p + q) Rat.le_refl (by grind)
  rcases near2 n1 n2 (by have := uQ_big; grind) with ⟨a, b⟩ | h
  · exact ⟨r, hr, h4 _ _ rv_zero (by grind), a, b⟩
  · grind
theorem div_near {x y : F} {p q B : Rat} (hx : RV x p) (hy : RV y q) (h0 : 0 ≤ p) (hq : 1 ≤ q) (hB : p ≤ B) (hB1 : B ≤ 1000000000000000000) : ∃ r e, RV (fdiv x y) r ∧ 0 ≤ r ∧ e * q = p ∧ 0 ≤ e ∧ e ≤ p ∧ e - e * (3 / 25000000) - 1 / 1000000000000 ≤ r ∧ r ≤ e + e * (3 / 25000000) + 1 / 1000000000000 := by
  have hqp : 0 < q := by grind
  have hre : p / q * q = p := Rat.div_mul_cancel (by grind)
  generalize he : p / q = e at *
  have e0 : 0 ≤ e := by
    refine Rat.le_of_mul_le_mul_right (c := q) ?_ hqp
    rw [Rat.zero_mul, hre]; exact h0
  have e1 : e ≤ p := by
    have := Rat.mul_le_mul_of_nonneg_left hq e0
    grind
  obtain ⟨r, hr, hn, r0, _⟩ := hx.div hy hqp (by rw [he]; grind) (by rw [he]; grind)
  rw [he] at hn
  obtain ⟨n1, n2⟩ := hn e Rat.le_refl (by grind)
  rcases near2 n1 n2 (by have := uQ_big; grind) with ⟨a, b⟩ | h
  · exact ⟨r, e, hr, r0 h0, hre, e0, e1, a, b⟩
  · grind
/-- The error of a cell's step, in plain numbers. -/
theorem mv_err {R s p u d k1 c w q To Ti : Rat} (R1 : 1 ≤ R) (R2 : R ≤ 200) (s0 : 0 ≤ s) (u0 : 0 ≤ u) (u1 : u ≤ 3 / 4) (w0 : 0 ≤ w) (hu : u * R = To) (hw : w * R = Ti)
    (p1 : u - u * (1 / 2500000) - 1 / 100000000000 ≤ p) (p2 : p ≤ u + u * (1 / 2500000) + 1 / 100000000000) (d1 : 1 - p - 1 / 8000000 ≤ d) (d2 : d ≤ 1 - p + 1 / 8000000)
    (k2 : s * d - s * (1 / 8000000) - 1 / 1000000000000 ≤ k1) (k3 : k1 ≤ s * d + s * (1 / 8000000) + 1 / 1000000000000)
    (c1 : w - w * (1 / 2500000) - 1 / 100000000000 ≤ c) (c2 : c ≤ w + w * (1 / 2500000) + 1 / 100000000000)
    (q1 : k1 + c - (k1 + c) * (3 / 25000000) - 1 / 1000000000000 ≤ q) (q2 : q ≤ k1 + c + (k1 + c) * (3 / 25000000) + 1 / 1000000000000) :
    R * q - R * s - (Ti - To * s) ≤ (R * s + Ti) / 500000 + 1 / 50000000 ∧ (Ti - To * s) - (R * q - R * s) ≤ (R * s + Ti) / 500000 + 1 / 50000000 := by
  have hsu : 0 ≤ s * u := Rat.mul_nonneg s0 u0
  have hsu1 : s * u ≤ s * (3 / 4) := Rat.mul_le_mul_of_nonneg_left u1 s0
  have a1 : s * d ≤ s * (1 - u + u * (1 / 2500000) + 1 / 100000000000 + 1 / 8000000) := Rat.mul_le_mul_of_nonneg_left (by grind) s0
  have a2 : s * (1 - u - u * (1 / 2500000) - 1 / 100000000000 - 1 / 8000000) ≤ s * d := Rat.mul_le_mul_of_nonneg_left (by grind) s0
  have b1 : q - s - (w - s * u) ≤ (s + w) / 500000 + 1 / 10000000000 := by grind
  have b2 : (w - s * u) - (q - s) ≤ (s + w) / 500000 + 1 / 10000000000 := by grind
  have e1 : R * q - R * s - (Ti - To * s) = R * (q - s - (w - s * u)) := by rw [← hu, ← hw]; grind
  have e2 : (Ti - To * s) - (R * q - R * s) = R * ((w - s * u) - (q - s)) := by rw [← hu, ← hw]; grind
  have R0 : 0 ≤ R := by grind
  have g1 := Rat.mul_le_mul_of_nonneg_left b1 R0
  have g2 := Rat.mul_le_mul_of_nonneg_left b2 R0
  have e3 : R * ((s + w) / 500000 + 1 / 10000000000) = (R * s + Ti) / 500000 + R / 10000000000 := by rw [← hw]; grind
  rw [e1, e2]
  rw [e3] at g1 g2
  constructor <;> grind

/-! Sums of rationals. -/
def rsum (r : Nat → Rat) (l : List Nat) : Rat := l.foldl (fun a c => a + r c) 0
theorem rsum_snoc {r : Nat → Rat} {l : List Nat} {c : Nat} : rsum r (l ++ [c]) = rsum r l + r c := by unfold rsum; rw [List.foldl_append]; rfl
theorem rsum_sub {f g : Nat → Rat} : ∀ l, rsum (fun c => f c - g c) l = rsum f l - rsum g l := by
  refine snoc_ind (P := fun l => rsum (fun c => f c - g c) l = rsum f l - rsum g l) (by show (0 : Rat) = 0 - 0; grind) fun l c ih => ?_
  rw [rsum_snoc, rsum_snoc, rsum_snoc, ih]; grind
theorem rsum_add {f g : Nat → Rat} : ∀ l, rsum (fun c => f c + g c) l = rsum f l + rsum g l := by
  refine snoc_ind (P := fun l => rsum (fun c => f c + g c) l = rsum f l + rsum g l) (by show (0 : Rat) = 0 + 0; grind) fun l c ih => ?_
  rw [rsum_snoc, rsum_snoc, rsum_snoc, ih]; grind
theorem len_snoc {l : List Nat} {c : Nat} : (((l ++ [c]).length : Nat) : Rat) = (l.length : Rat) + 1 := by
  rw [List.length_append, List.length_singleton]; push_cast; rfl
theorem rsum_near {f g u : Nat → Rat} {a b : Rat} : ∀ l, (∀ c ∈ l, f c - g c ≤ a * u c + b) → rsum f l - rsum g l ≤ a * rsum u l + ((l.length : Nat) : Rat) * b := by
  refine snoc_ind (P := fun l => (∀ c ∈ l, f c - g c ≤ a * u c + b) → rsum f l - rsum g l ≤ a * rsum u l + ((l.length : Nat) : Rat) * b) (fun _ => ?_) fun l c ih h => ?_
  · show (0 : Rat) - 0 ≤ a * 0 + ((0 : Nat) : Rat) * b
    have e : ((0 : Nat) : Rat) = 0 := rfl
    rw [e]; grind
  · have h1 := ih fun d hd => h d (by simp [hd])
    have h2 := h c (by simp)
    rw [rsum_snoc, rsum_snoc, rsum_snoc, len_snoc]
    generalize ((l.length : Nat) : Rat) = n at *
    grind
theorem rsum_pos {f : Nat → Rat} : ∀ l, (∀ c ∈ l, 0 ≤ f c) → 0 ≤ rsum f l := by
  refine snoc_ind (P := fun l => (∀ c ∈ l, 0 ≤ f c) → 0 ≤ rsum f l) (fun _ => by show (0 : Rat) ≤ 0; grind) fun l c ih h => ?_
  have h1 := ih fun d hd => h d (by simp [hd])
  have h2 := h c (by simp)
  rw [rsum_snoc]; grind
theorem rsum_cap {f : Nat → Rat} {K : Rat} : ∀ l, (∀ c ∈ l, f c ≤ K) → rsum f l ≤ ((l.length : Nat) : Rat) * K := by
  refine snoc_ind (P := fun l => (∀ c ∈ l, f c ≤ K) → rsum f l ≤ ((l.length : Nat) : Rat) * K) (fun _ => ?_) fun l c ih h => ?_
  · show (0 : Rat) ≤ ((0 : Nat) : Rat) * K
    have e : ((0 : Nat) : Rat) = 0 := rfl
    rw [e]; grind
  · have h1 := ih fun d hd => h d (by simp [hd])
    have h2 := h c (by simp)
    rw [rsum_snoc, len_snoc]
    generalize ((l.length : Nat) : Rat) = n at *
    grind
theorem rsum_filter {f g : Nat → Rat} {p : Nat → Bool} : ∀ l, (∀ c ∈ l, p c = false → f c = g c) → rsum f l - rsum g l = rsum f (l.filter p) - rsum g (l.filter p) := by
  refine snoc_ind (P := fun l => (∀ c ∈ l, p c = false → f c = g c) → rsum f l - rsum g l = rsum f (l.filter p) - rsum g (l.filter p)) (fun _ => rfl) fun l c ih h => ?_
  have h1 := ih fun d hd => h d (by simp [hd])
  rw [List.filter_append, rsum_snoc, rsum_snoc]
  cases hp : p c
  · have h2 := h c (by simp) hp
    rw [show [c].filter p = [] by simp [hp], List.append_nil]; grind
  · rw [show [c].filter p = [c] by simp [hp], rsum_snoc, rsum_snoc]; grind
theorem rsum_filter_le {f : Nat → Rat} {p : Nat → Bool} : ∀ l, (∀ c ∈ l, 0 ≤ f c) → rsum f (l.filter p) ≤ rsum f l := by
  refine snoc_ind (P := fun l => (∀ c ∈ l, 0 ≤ f c) → rsum f (l.filter p) ≤ rsum f l) (fun _ => Rat.le_refl) fun l c ih h => ?_
  have h1 := ih fun d hd => h d (by simp [hd])
  have h2 := h c (by simp)
  rw [List.filter_append, rsum_snoc]
  cases hp : p c
  · rw [show [c].filter p = [] by simp [hp], List.append_nil]; grind
  · rw [show [c].filter p = [c] by simp [hp], rsum_snoc]; grind
theorem len64 {l : List Nat} (h : l.length ≤ 64) {K : Rat} (K0 : 0 ≤ K) : ((l.length : Nat) : Rat) * K ≤ 64 * K ∧ 0 ≤ ((l.length : Nat) : Rat) * K := by
  have a : ((l.length : Nat) : Rat) ≤ 64 := by
    have : (((l.length : Nat) : Int) : Rat) ≤ ((64 : Int) : Rat) := Rat.intCast_le_intCast.2 (by omega)
    exact this
  have b : (0 : Rat) ≤ ((l.length : Nat) : Rat) := by
    have : ((0 : Int) : Rat) ≤ (((l.length : Nat) : Int) : Rat) := Rat.intCast_le_intCast.2 (by omega)
    exact this
  exact ⟨Rat.mul_le_mul_of_nonneg_right a K0, Rat.mul_nonneg b K0⟩

/-! Sums of floats. -/
def accF (d : Nat → F) (z : F) (l : List Nat) : F := l.foldl (fun a c => fadd a (d c)) z
theorem accF_snoc {d : Nat → F} {z : F} {l : List Nat} {c : Nat} : accF d z (l ++ [c]) = fadd (accF d z l) (d c) := by unfold accF; rw [List.foldl_append]; rfl
theorem acc_near {d : Nat → F} {r w : Nat → Rat} {z : F} {z0 w0 W : Rat} (hz : RV z z0) (z1 : -w0 ≤ z0) (z2 : z0 ≤ w0) (W0 : 0 ≤ W) (W1 : W ≤ 100000000000000000) :
    ∀ l : List Nat, (∀ c ∈ l, RV (d c) (r c) ∧ -w c ≤ r c ∧ r c ≤ w c) → w0 + rsum w l ≤ W → l.length ≤ 64 →
    ∃ G, RV (accF d z l) G ∧ G - (z0 + rsum r l) ≤ ((l.length : Nat) : Rat) * (W / 8000000 + 2 / 1000000000000) ∧ (z0 + rsum r l) - G ≤ ((l.length : Nat) : Rat) * (W / 8000000 + 2 / 1000000000000) ∧ -(w0 + rsum w l) ≤ z0 + rsum r l ∧ z0 + rsum r l ≤ w0 + rsum w l ∧ (0 ≤ z0 → (∀ c ∈ l, 0 ≤ r c) → 0 ≤ G) := by
  refine snoc_ind (P := fun l => (∀ c ∈ l, RV (d c) (r c) ∧ -w c ≤ r c ∧ r c ≤ w c) → w0 + rsum w l ≤ W → l.length ≤ 64 →
    ∃ G, RV (accF d z l) G ∧ G - (z0 + rsum r l) ≤ ((l.length : Nat) : Rat) * (W / 8000000 + 2 / 1000000000000) ∧ (z0 + rsum r l) - G ≤ ((l.length : Nat) : Rat) * (W / 8000000 + 2 / 1000000000000) ∧ -(w0 + rsum w l) ≤ z0 + rsum r l ∧ z0 + rsum r l ≤ w0 + rsum w l ∧ (0 ≤ z0 → (∀ c ∈ l, 0 ≤ r c) → 0 ≤ G)) (fun _ _ _ => ?_) fun l c ih h hW hl => ?_
  · refine ⟨z0, hz, ?_, ?_, ?_, ?_, fun z _ => z⟩
    · show z0 - (z0 + 0) ≤ ((0 : Nat) : Rat) * _
      have e : ((0 : Nat) : Rat) = 0 := rfl
      rw [e]; grind
    · show (z0 + 0) - z0 ≤ ((0 : Nat) : Rat) * _
      have e : ((0 : Nat) : Rat) = 0 := rfl
      rw [e]; grind
    · show -(w0 + 0) ≤ z0 + 0; grind
    · show z0 + 0 ≤ w0 + 0; grind
  · obtain ⟨h1, h2, h3⟩ := h c (by simp)
    rw [List.length_append, List.length_singleton] at hl
    rw [rsum_snoc] at hW
    obtain ⟨G, hG, g1, g2, g3, g4, g5⟩ := ih (fun e he => h e (by simp [he])) (by grind) (by omega)
    obtain ⟨n1, _⟩ := len64 (l := l) (by omega) (K := W / 8000000 + 2 / 1000000000000) (by grind)
    rw [accF_snoc, rsum_snoc, rsum_snoc, len_snoc]
    have hn : ((l.length : Rat) + 1) * (W / 8000000 + 2 / 1000000000000) = (l.length : Rat) * (W / 8000000 + 2 / 1000000000000) + (W / 8000000 + 2 / 1000000000000) := by grind
    rw [hn]
    generalize (l.length : Rat) * (W / 8000000 + 2 / 1000000000000) = E at *
    generalize rsum r l = U at *
    generalize rsum w l = V at *
    obtain ⟨q, hq, hqn, _, hq4⟩ := hG.add h1 (by grind) (by grind)
    obtain ⟨m1, m2⟩ := hqn (W + E) (by grind) (by grind)
    have hu := uQ_big
    exact ⟨q, hq, by grind, by grind, by grind, by grind, fun z k => hq4 _ _ rv_zero (by have := g5 z fun d hd => k d (by simp [hd]); have := k c (by simp); grind)⟩
/-- The value of a float that has one. -/
noncomputable def qv (x : F) : Rat := open Classical in if h : ∃ q, RV x q then Classical.choose h else 0
theorem RV.qv {x : F} {q : Rat} (h : RV x q) : qv x = q := by
  unfold Go.Proofs.Ytfcphfdfpjmgiaa.qv
  rw [dif_pos ⟨q, h⟩]
  exact (Classical.choose_spec (⟨q, h⟩ : ∃ q, RV x q)).inj h
end Go.Proofs.Ytfcphfdfpjmgiaa

namespace Go.Proofs.Ytfcphfdfpjmgiaa
open Go.RowKit

def gT (n : N) (t : F) (c : Nat) : F := fmul t (fsub (inF n c) (fmul (outF n.g c) (n.s c)))
def sT (n : N) (t : F) (c : Nat) : F := fadd (fmul t (inF n c)) (fmul t (fmul (outF n.g c) (n.s c)))

/-- What is known of a free cell. -/
structure Cel (n : N) (t : F) (T R : Rat) (c : Nat) (i o s q : Rat) : Prop where
  iv : RV (inF n c) i
  ov : RV (outF n.g c) o
  sv : RV (n.s c) s
  qv : RV (mvS n t c) q
  i0 : 0 ≤ i
  i1 : i ≤ 300000000
  o0 : 0 ≤ o
  o1 : o ≤ 220
  s0 : 0 ≤ s
  s1 : s ≤ 1000000
  e1 : R * q - R * s - (T * i - T * (o * s)) ≤ (R * s + T * i) / 500000 + 1 / 50000000
  e2 : (T * i - T * (o * s)) - (R * q - R * s) ≤ (R * s + T * i) / 500000 + 1 / 50000000
theorem cel {n : N} {t : F} {T R : Rat} (h : Crs n t T R) {c : Nat} (hk : IsCell n.g c) (hf : fixB n.g.fixed c = false) : ∃ i o s q, Cel n t T R c i o s q := by
  obtain ⟨N⟩ := h.nums
  obtain ⟨o, ho, o0, o1, _, _⟩ := out_q N (sized_of h.ok) hk
  obtain ⟨s, hs, s0, s1⟩ := h.sp c hk
  have t0 := h.safe.t0
  have t1 := h.safe.t1
  have R1 := h.r1
  have R2 := h.r2
  have hin := in_q h hk (K := fun _ => 96000000000) (fun _ => by grind) (fun sd hsd d hb f q hfl hn hq q0 => by
    obtain ⟨f', k1, k2, k3, _⟩ := flow_at N (sized_of h.ok) hk hb
    have e := k1.inj hfl
    subst e
    obtain ⟨q', m1, m2, m3⟩ := h.sp d (beside_cell (sized_of h.ok) hk.1 hb)
    have e := m1.inj hq
    subst e
    have a1 := Rat.mul_le_mul_of_nonneg_left m3 (show 0 ≤ -f' by grind)
    have a2 : -f' * q' ≤ 48000000 := by grind
    have a3 := Rat.mul_le_mul_of_nonneg_left a2 t0
    have a4 := Rat.mul_le_mul_of_nonneg_right t1 (show (0 : Rat) ≤ 48000000 by grind)
    show T * (-f' * q') ≤ R * 96000000000
    grind)
  obtain ⟨i, hi, i0, i1, _⟩ := hin
  have To0 : 0 ≤ T * o := Rat.mul_nonneg t0 o0
  have Ti0 : 0 ≤ T * i := Rat.mul_nonneg t0 i0
  have To1 := h.safe.all c (free64.2 ⟨hk, hf⟩) o ho
  have Ti1 : T * i ≤ 600000000000 := by
    have a1 := Rat.mul_le_mul_of_nonneg_left i1 t0
    grind
  obtain ⟨a, ha, a0, a1, a2⟩ := mul_near (B := 1000) h.tv ho To0 (by grind) (by grind)
  obtain ⟨p, u', hp, p0, hu', u'0, _, p1, p2⟩ := div_near (B := 10000) ha h.rv a0 R1 (by grind) (by grind)
  obtain ⟨b, hb, b0, b1, b2⟩ := mul_near (B := 600000000000) h.tv hi Ti0 Ti1 (by grind)
  obtain ⟨cc, w', hcc, c0, hw', w'0, _, c1, c2⟩ := div_near (B := 1000000000000) hb h.rv b0 R1 (by grind) (by grind)
  have Rp : 0 < R := by grind
  have hu : T * o / R * R = T * o := Rat.div_mul_cancel (by grind)
  have hw : T * i / R * R = T * i := Rat.div_mul_cancel (by grind)
  generalize hU : T * o / R = u at *
  generalize hW : T * i / R = w at *
  have u0 : 0 ≤ u := by
    refine Rat.le_of_mul_le_mul_right (c := R) ?_ Rp
    rw [Rat.zero_mul, hu]; exact To0
  have w0 : 0 ≤ w := by
    refine Rat.le_of_mul_le_mul_right (c := R) ?_ Rp
    rw [Rat.zero_mul, hw]; exact Ti0
  have u1 : u ≤ 6 / 10 := by
    refine Rat.le_of_mul_le_mul_right (c := R) ?_ Rp
    rw [hu]; grind
  -- the quotients of the rounded products are near the exact ones
  have v1 : u' ≤ u + u * (3 / 25000000) + 1 / 1000000000000 := by
    refine Rat.le_of_mul_le_mul_right (c := R) ?_ Rp
    have e : (u + u * (3 / 25000000) + 1 / 1000000000000) * R = u * R + u * R * (3 / 25000000) + R / 1000000000000 := by grind
    rw [hu', e, hu]; grind
  have v2 : u - u * (3 / 25000000) - 1 / 1000000000000 ≤ u' := by
    refine Rat.le_of_mul_le_mul_right (c := R) ?_ Rp
    have e : (u - u * (3 / 25000000) - 1 / 1000000000000) * R = u * R - u * R * (3 / 25000000) - R / 1000000000000 := by grind
    rw [hu', e, hu]; grind
  have v3 : w' ≤ w + w * (3 / 25000000) + 1 / 1000000000000 := by
    refine Rat.le_of_mul_le_mul_right (c := R) ?_ Rp
    have e : (w + w * (3 / 25000000) + 1 / 1000000000000) * R = w * R + w * R * (3 / 25000000) + R / 1000000000000 := by grind
    rw [hw', e, hw]; grind
  have v4 : w - w * (3 / 25000000) - 1 / 1000000000000 ≤ w' := by
    refine Rat.le_of_mul_le_mul_right (c := R) ?_ Rp
    have e : (w - w * (3 / 25000000) - 1 / 1000000000000) * R = w * R - w * R * (3 / 25000000) - R / 1000000000000 := by grind
    rw [hw', e, hw]; grind
  obtain ⟨d, hd, hdn, d3, d4⟩ := rv_one.sub hp (by grind) (by grind)
  have d0 := d4 _ _ rv_zero (by grind)
  have d1 := d3 _ _ rv_one (by grind)
  obtain ⟨x1, x2⟩ := hdn 1 (by grind) (by grind)
  have hub := uQ_big
  have sd0 : 0 ≤ s * d := Rat.mul_nonneg s0 d0
  have sd1 : s * d ≤ s := by have := Rat.mul_le_mul_of_nonneg_left d1 s0; grind
  obtain ⟨k1, hk1, k0, k2, k3⟩ := mul_near (B := 1000000) hs hd sd0 (by grind) (by grind)
  have w1 : w ≤ 600000000000 := by
    refine Rat.le_of_mul_le_mul_right (c := R) ?_ Rp
    rw [hw]; grind
  obtain ⟨q, hq, _, q1, q2⟩ := add_near (B := 1000000000000) hk1 hcc k0 c0 (by grind) (by grind)
  have hm := mv_err R1 R2 s0 u0 (by grind) w0 hu hw (p := p) (d := d) (k1 := k1) (c := cc) (q := q) (by grind) (by grind) (by grind) (by grind) (by grind) (by grind) (by grind) (by grind) q1 q2
  have e : T * (o * s) = T * o * s := by grind
  rw [← e] at hm
  exact ⟨i, o, s, q, hi, ho, hs, hq, i0, i1, o0, o1, s0, s1, hm.1, hm.2⟩
/-- The terms of a cell. -/
theorem terms {n : N} {t : F} {T R : Rat} {c : Nat} {i o s q : Rat} (ht : RV t T) (t0 : 0 ≤ T) (t1 : T ≤ 2000) (h : Cel n t T R c i o s q) :
    0 ≤ T * i ∧ T * i ≤ 600000000000 ∧ 0 ≤ T * (o * s) ∧ T * (o * s) ≤ 600000000000 ∧
    (∃ g, RV (gT n t c) g ∧ g - (T * i - T * (o * s)) ≤ (T * i + T * (o * s)) / 1000000 + 1 / 10000000 ∧ (T * i - T * (o * s)) - g ≤ (T * i + T * (o * s)) / 1000000 + 1 / 10000000) ∧
    (∃ v, RV (sT n t c) v ∧ 0 ≤ v ∧ v - (T * i + T * (o * s)) ≤ (T * i + T * (o * s)) / 1000000 + 1 / 10000000 ∧ (T * i + T * (o * s)) - v ≤ (T * i + T * (o * s)) / 1000000 + 1 / 10000000) := by
  have i0 := h.i0
  have i1 := h.i1
  have o0 := h.o0
  have s0 := h.s0
  have hub := uQ_big
  have X0 : 0 ≤ o * s := Rat.mul_nonneg o0 s0
  have X1 : o * s ≤ 220000000 := by
    have a1 := Rat.mul_le_mul_of_nonneg_left h.s1 o0
    have a2 := h.o1
    grind
  obtain ⟨m, hm, m0, m1, m2⟩ := mul_near (B := 220000000) h.ov h.sv X0 X1 (by grind)
  generalize o * s = X at *
  have P0 : 0 ≤ T * i := Rat.mul_nonneg t0 i0
  have Q0 : 0 ≤ T * X := Rat.mul_nonneg t0 X0
  have P1 : T * i ≤ 600000000000 := by have a1 := Rat.mul_le_mul_of_nonneg_left i1 t0; grind
  have Q1 : T * X ≤ 600000000000 := by have a1 := Rat.mul_le_mul_of_nonneg_left X1 t0; grind
  obtain ⟨d, hd, hdn, _, _⟩ := h.iv.sub hm (by grind) (by grind)
  obtain ⟨d1, d2⟩ := hdn (i + m) (by grind) (by grind)
  have d3 : d ≤ i - X + (i + X) / 2000000 + 1 / 100000000000 := by grind
  have d4 : i - X - (i + X) / 2000000 - 1 / 100000000000 ≤ d := by grind
  have y1 := Rat.mul_le_mul_of_nonneg_left d3 t0
  have y2 := Rat.mul_le_mul_of_nonneg_left d4 t0
  have e1 : T * (i - X + (i + X) / 2000000 + 1 / 100000000000) = T * i - T * X + (T * i + T * X) / 2000000 + T / 100000000000 := by grind
  have e2 : T * (i - X - (i + X) / 2000000 - 1 / 100000000000) = T * i - T * X - (T * i + T * X) / 2000000 - T / 100000000000 := by grind
  rw [e1] at y1
  rw [e2] at y2
  have m3 : m ≤ X + X / 2000000 + 1 / 100000000000 := by grind
  have m4 : X - X / 2000000 - 1 / 100000000000 ≤ m := by grind
  have z1 := Rat.mul_le_mul_of_nonneg_left m3 t0
  have z2 := Rat.mul_le_mul_of_nonneg_left m4 t0
  have e3 : T * (X + X / 2000000 + 1 / 100000000000) = T * X + T * X / 2000000 + T / 100000000000 := by grind
  have e4 : T * (X - X / 2000000 - 1 / 100000000000) = T * X - T * X / 2000000 - T / 100000000000 := by grind
  rw [e3] at z1
  rw [e4] at z2
  have tm0 : 0 ≤ T * m := Rat.mul_nonneg t0 m0
  obtain ⟨g, hg, hgn, _, _⟩ := ht.mul hd (by grind) (by grind)
  obtain ⟨g1, g2⟩ := hgn ((T * i + T * X) * (1000001 / 1000000) + 1 / 1000000) (by grind) (by grind)
  obtain ⟨a, ha, a0, a1, a2⟩ := mul_near (B := 600000000000) ht h.iv P0 P1 (by grind)
  obtain ⟨b, hb, b0, b1, b2⟩ := mul_near (B := 1000000000000) ht hm tm0 (by grind) (by grind)
  obtain ⟨v, hv, v0, v1, v2⟩ := add_near (B := 10000000000000) ha hb a0 b0 (by grind) (by grind)
  refine ⟨P0, P1, Q0, Q1, ⟨g, hg, by grind, by grind⟩, ⟨v, hv, v0, by grind, by grind⟩⟩
end Go.Proofs.Ytfcphfdfpjmgiaa

namespace Go.Proofs.Ytfcphfdfpjmgiaa
open Go.RowKit

theorem rsum_cons {r : Nat → Rat} {c : Nat} : ∀ l, rsum r (c :: l) = r c + rsum r l := by
  refine snoc_ind (P := fun l => rsum r (c :: l) = r c + rsum r l) (by show (0 : Rat) + r c = r c + 0; grind) fun l d ih => ?_
  rw [← List.cons_append, rsum_snoc, rsum_snoc, ih]; grind
theorem salt_sum {n : N} {R : Rat} (hR : RV n.room R) (R1 : 1 ≤ R) (R2 : R ≤ 200) {s : Nat → Rat} {l : List Nat} (hne : l ≠ []) (hlen : l.length ≤ 64) (hl : ∀ c ∈ l, RV (n.s c) (s c) ∧ 0 ≤ s c ∧ s c ≤ 1000000) :
    ∃ B, RV (sumF (saltD n) l) B ∧ B - rsum (fun c => R * s c) l ≤ rsum (fun c => R * s c) l / 100000 + 1 / 10000000 ∧ rsum (fun c => R * s c) l - B ≤ rsum (fun c => R * s c) l / 100000 + 1 / 10000000 ∧ 0 ≤ rsum (fun c => R * s c) l ∧ rsum (fun c => R * s c) l ≤ 100000000000 ∧ 0 ≤ B := by
  have ht : ∀ c ∈ l, ∃ r, RV (saltD n c) r ∧ 0 ≤ r ∧ r - R * s c ≤ (3 / 25000000) * (R * s c) + 1 / 1000000000000 ∧ R * s c - r ≤ (3 / 25000000) * (R * s c) + 1 / 1000000000000 ∧ 0 ≤ R * s c ∧ R * s c ≤ 200000000 := fun c hc => by
    obtain ⟨h1, h2, h3⟩ := hl c hc
    have p0 : 0 ≤ s c * R := Rat.mul_nonneg h2 (by grind)
    have p1 : s c * R ≤ 200000000 := by
      have a1 := Rat.mul_le_mul_of_nonneg_left R2 h2
      grind
    obtain ⟨r, k1, k2, k3, k4⟩ := mul_near (B := 200000000) h1 hR p0 p1 (by grind)
    rw [Rat.mul_comm R (s c)]
    exact ⟨r, k1, k2, by grind, by grind, p0, p1⟩
  have hq : ∀ c ∈ l, RV (saltD n c) (qv (saltD n c)) ∧ 0 ≤ qv (saltD n c) ∧ qv (saltD n c) - R * s c ≤ (3 / 25000000) * (R * s c) + 1 / 1000000000000 ∧ R * s c - qv (saltD n c) ≤ (3 / 25000000) * (R * s c) + 1 / 1000000000000 ∧ 0 ≤ R * s c ∧ R * s c ≤ 200000000 := fun c hc => by
    obtain ⟨r, k1, k2⟩ := ht c hc
    rw [k1.qv]; exact ⟨k1, k2⟩
  have x0 := rsum_pos (f := fun c => R * s c) l fun c hc => (hq c hc).2.2.2.2.1
  have x1 := rsum_cap (f := fun c => R * s c) (K := 200000000) l fun c hc => (hq c hc).2.2.2.2.2
  obtain ⟨x2, _⟩ := len64 hlen (K := 200000000) (by grind)
  have n1 := rsum_near (f := fun c => qv (saltD n c)) (g := fun c => R * s c) (u := fun c => R * s c) (a := 3 / 25000000) (b := 1 / 1000000000000) l fun c hc => (hq c hc).2.2.1
  have n2 := rsum_near (f := fun c => R * s c) (g := fun c => qv (saltD n c)) (u := fun c => R * s c) (a := 3 / 25000000) (b := 1 / 1000000000000) l fun c hc => (hq c hc).2.2.2.1
  obtain ⟨n3, _⟩ := len64 hlen (K := 1 / 1000000000000) (by grind)
  have w0 := rsum_pos (f := fun c => qv (saltD n c)) l fun c hc => (hq c hc).2.1
  cases l with
  | nil => exact absurd rfl hne
  | cons a l =>
    obtain ⟨a1, a2, _⟩ := hq a (by simp)
    have hw : qv (saltD n a) + rsum (fun c => qv (saltD n c)) l = rsum (fun c => qv (saltD n c)) (a :: l) := by rw [rsum_cons (r := fun c => qv (saltD n c))]
    obtain ⟨B, hB, b1, b2, _, _, b3⟩ := acc_near (d := saltD n) (r := fun c => qv (saltD n c)) (w := fun c => qv (saltD n c)) (w0 := qv (saltD n a)) (W := rsum (fun c => qv (saltD n c)) (a :: l)) a1 (by grind) (by grind) w0 (by grind) l
      (fun c hc => by
        obtain ⟨k1, k2, _⟩ := hq c (List.mem_cons_of_mem _ hc)
        exact ⟨k1, by show -qv (saltD n c) ≤ qv (saltD n c); grind, Rat.le_refl⟩) (by rw [hw]; exact Rat.le_refl) (by simp at hlen; omega)
    rw [hw] at b1 b2
    obtain ⟨l1, _⟩ := len64 (l := l) (by simp at hlen; omega) (K := rsum (fun c => qv (saltD n c)) (a :: l) / 8000000 + 2 / 1000000000000) (by grind)
    refine ⟨B, hB, by grind, by grind, x0, by grind, b3 a2 fun c hc => (hq c (List.mem_cons_of_mem _ hc)).2.1⟩
theorem rv_tiny4 : RV (some 953267991) (13743895 / 137438953472) := RV.of (v := 13743895 * (2 ^ 112 : Nat)) (by decide +kernel) (by decide +kernel)
/-- The last comparison, in plain numbers. -/
theorem kept_num {X Y P Q A B G S D E M V : Rat} (X0 : 0 ≤ X) (Y0 : 0 ≤ Y) (P0 : 0 ≤ P)
    (b1 : B - X ≤ X / 100000 + 1 / 10000000) (b2 : X - B ≤ X / 100000 + 1 / 10000000) (a1 : A - Y ≤ Y / 100000 + 1 / 10000000) (a2 : Y - A ≤ Y / 100000 + 1 / 10000000)
    (g1 : G - (P - Q) ≤ (P + Q) / 50000 + 1 / 100000) (g2 : (P - Q) - G ≤ (P + Q) / 50000 + 1 / 100000)
    (s2 : (X + Y + P + Q) - S ≤ (X + Y + P + Q) / 20000 + 1 / 20000)
    (k1 : Y - X - (P - Q) ≤ (X + P) / 500000 + 1 / 500000) (k2 : (P - Q) - (Y - X) ≤ (X + P) / 500000 + 1 / 500000)
    (d1 : D - (A - B) ≤ (A + B) / 8388608 + 1 / 1000000000000) (d2 : (A - B) - D ≤ (A + B) / 8388608 + 1 / 1000000000000)
    (e1 : E - (D - G) ≤ (X + Y + P + Q + 1) / 4000000 + 1 / 1000000000000) (e2 : (D - G) - E ≤ (X + Y + P + Q + 1) / 4000000 + 1 / 1000000000000)
    (m2 : S * (13743895 / 137438953472) - S * (13743895 / 137438953472) * (3 / 25000000) - 1 / 1000000000000 ≤ M)
    (v2 : M + 13743895 / 137438953472 - (M + 13743895 / 137438953472) * (3 / 25000000) - 1 / 1000000000000 ≤ V) : -V ≤ E ∧ E ≤ V := by
  constructor <;> grind
theorem near_w {r B : Rat} (h : r ≤ B / 8388608 + 1 / uQ) : r ≤ B / 8388608 + 1 / 1000000000000 := by have := uQ_big; grind
theorem near_v {r B : Rat} (h : r ≤ B / 8388608 + 1 / uQ) (h0 : 0 ≤ B) : r ≤ B / 4000000 + 1 / 1000000000000 := by have := uQ_big; grind
theorem rsum_zero : ∀ l, rsum (fun _ => 0) l = 0 := by
  refine snoc_ind (P := fun l => rsum (fun _ => 0) l = 0) rfl fun l c ih => ?_
  rw [rsum_snoc, ih]; grind
theorem kept {n : N} {t : F} {T R : Rat} (h : Crs n t T R) (hc : Cap n 10 10) : ∃ A B E V,
    RV (sumF (saltD n) (cellsM n.g)) B ∧ RV (sumF (saltD (mvIt n t 1)) (cellsM n.g)) A ∧
    RV (fsub (fsub (sumF (saltD (mvIt n t 1)) (cellsM n.g)) (sumF (saltD n) (cellsM n.g))) (accF (gT n t) (some 0) (freeL n.g 64))) E ∧
    RV (fadd (fmul (accF (sT n t) (fadd (sumF (saltD n) (cellsM n.g)) (sumF (saltD (mvIt n t 1)) (cellsM n.g))) (freeL n.g 64)) (some 953267991)) (some 953267991)) V ∧ -V ≤ E ∧ E ≤ V ∧ V ≤ 1000000000000000000 := by
  have hsz := sized_of h.ok
  have t0 := h.safe.t0
  have t1 := h.safe.t1
  have hub := uQ_big
  have hne : cellsM n.g ≠ [] := cells_ne hsz.1.1 hsz.2.1
  have hlen : (cellsM n.g).length ≤ 64 := by
    have := List.length_filter_le (fun c => hasB n.g.wide n.g.high c) (List.range 64)
    rw [List.length_range] at this
    exact this
  have hlenF : (freeL n.g 64).length ≤ 64 := Nat.le_trans (List.length_filter_le _ _) hlen
  have hs : ∀ c ∈ cellsM n.g, RV (n.s c) (qv (n.s c)) ∧ 0 ≤ qv (n.s c) ∧ qv (n.s c) ≤ 1000000 := fun c hm => by
    obtain ⟨q, k1, k2, k3⟩ := h.sp c (mem_cellsS.1 hm)
    rw [k1.qv]; exact ⟨k1, k2, k3⟩
  have h1 := (it_cap h hc 1 (by omega)).1
  have hs' : ∀ c ∈ cellsM n.g, RV ((mvIt n t 1).s c) (qv ((mvIt n t 1).s c)) ∧ 0 ≤ qv ((mvIt n t 1).s c) ∧ qv ((mvIt n t 1).s c) ≤ 1000000 := fun c hm => by
    obtain ⟨q, k1, k2, k3⟩ := h1.sp c (mem_cellsS.1 hm)
    rw [k1.qv]; exact ⟨k1, k2, k3⟩
  obtain ⟨B, hB, b1, b2, X0, X1, B0⟩ := salt_sum h.rv h.r1 h.r2 hne hlen hs
  obtain ⟨A, hA, a1, a2, Y0, Y1, A0⟩ := salt_sum (n := mvIt n t 1) h.rv h.r1 h.r2 hne hlen hs'
  -- the cells that are free
  have hcel : ∀ c ∈ freeL n.g 64, Cel n t T R c (qv (inF n c)) (qv (outF n.g c)) (qv (n.s c)) (qv (mvS n t c)) := fun c hm => by
    obtain ⟨i, o, s, q, k⟩ := cel h (free64.1 hm).1 (free64.1 hm).2
    rw [k.iv.qv, k.ov.qv, k.sv.qv, k.qv.qv]; exact k
  have hdiff : rsum (fun c => R * qv ((mvIt n t 1).s c)) (cellsM n.g) - rsum (fun c => R * qv (n.s c)) (cellsM n.g) = rsum (fun c => R * qv ((mvIt n t 1).s c)) (freeL n.g 64) - rsum (fun c => R * qv (n.s c)) (freeL n.g 64) :=
    rsum_filter (p := fun c => !fixB n.g.fixed c) (cellsM n.g) fun c hm hp => by
      have hx : c ∉ freeL n.g 64 := fun hx => by
        have := (free64.1 hx).2
        simp [this] at hp
      show R * qv (updL n.s (mvS n t) (freeL n.g 64) c) = _
      rw [updL_out hx]
  have hle : rsum (fun c => R * qv (n.s c)) (freeL n.g 64) ≤ rsum (fun c => R * qv (n.s c)) (cellsM n.g) :=
    rsum_filter_le (p := fun c => !fixB n.g.fixed c) (cellsM n.g) fun c hm => Rat.mul_nonneg (by have := h.r1; grind) (hs c hm).2.1
  generalize hX : rsum (fun c => R * qv (n.s c)) (cellsM n.g) = X at *
  generalize hY : rsum (fun c => R * qv ((mvIt n t 1).s c)) (cellsM n.g) = Y at *
  generalize hL : freeL n.g 64 = L at *
  have htm := fun c hm => terms h.tv t0 t1 (hcel c hm)
  have P0 := rsum_pos (f := fun c => T * qv (inF n c)) L fun c hm => (htm c hm).1
  have P1 := rsum_cap (f := fun c => T * qv (inF n c)) (K := 600000000000) L fun c hm => (htm c hm).2.1
  have Q0 := rsum_pos (f := fun c => T * (qv (outF n.g c) * qv (n.s c))) L fun c hm => (htm c hm).2.2.1
  have Q1 := rsum_cap (f := fun c => T * (qv (outF n.g c) * qv (n.s c))) (K := 600000000000) L fun c hm => (htm c hm).2.2.2.1
  obtain ⟨l1, _⟩ := len64 hlenF (K := 600000000000) (by grind)
  obtain ⟨l2, _⟩ := len64 hlenF (K := 1 / 50000000) (by grind)
  obtain ⟨l3, _⟩ := len64 hlenF (K := 1 / 10000000) (by grind)
  have hm' : ∀ c ∈ L, qv ((mvIt n t 1).s c) = qv (mvS n t c) := fun c hm => by
    subst hL
    show qv (updL n.s (mvS n t) (freeL n.g 64) c) = _
    rw [updL_in hm]
  have k1 := rsum_near (f := fun c => R * qv ((mvIt n t 1).s c) - R * qv (n.s c)) (g := fun c => T * qv (inF n c) - T * (qv (outF n.g c) * qv (n.s c))) (u := fun c => R * qv (n.s c) + T * qv (inF n c)) (a := 1 / 500000) (b := 1 / 50000000) L fun c hm => by
    have := (hcel c hm).e1
    show R * qv ((mvIt n t 1).s c) - R * qv (n.s c) - (T * qv (inF n c) - T * (qv (outF n.g c) * qv (n.s c))) ≤ 1 / 500000 * (R * qv (n.s c) + T * qv (inF n c)) + 1 / 50000000
    rw [hm' c hm]; grind
  have k2 := rsum_near (f := fun c => T * qv (inF n c) - T * (qv (outF n.g c) * qv (n.s c))) (g := fun c => R * qv ((mvIt n t 1).s c) - R * qv (n.s c)) (u := fun c => R * qv (n.s c) + T * qv (inF n c)) (a := 1 / 500000) (b := 1 / 50000000) L fun c hm => by
    have := (hcel c hm).e2
    show (T * qv (inF n c) - T * (qv (outF n.g c) * qv (n.s c))) - (R * qv ((mvIt n t 1).s c) - R * qv (n.s c)) ≤ 1 / 500000 * (R * qv (n.s c) + T * qv (inF n c)) + 1 / 50000000
    rw [hm' c hm]; grind
  rw [rsum_sub, rsum_sub, rsum_add] at k1 k2
  have hg : ∀ c ∈ L, RV (gT n t c) (qv (gT n t c)) ∧ qv (gT n t c) - (T * qv (inF n c) - T * (qv (outF n.g c) * qv (n.s c))) ≤ 1 / 1000000 * (T * qv (inF n c) + T * (qv (outF n.g c) * qv (n.s c))) + 1 / 10000000 ∧ (T * qv (inF n c) - T * (qv (outF n.g c) * qv (n.s c))) - qv (gT n t c) ≤ 1 / 1000000 * (T * qv (inF n c) + T * (qv (outF n.g c) * qv (n.s c))) + 1 / 10000000 := fun c hm => by
    obtain ⟨g, g1, g2, g3⟩ := (htm c hm).2.2.2.2.1
    rw [g1.qv]; exact ⟨g1, by grind, by grind⟩
  have hv : ∀ c ∈ L, RV (sT n t c) (qv (sT n t c)) ∧ 0 ≤ qv (sT n t c) ∧ qv (sT n t c) - (T * qv (inF n c) + T * (qv (outF n.g c) * qv (n.s c))) ≤ 1 / 1000000 * (T * qv (inF n c) + T * (qv (outF n.g c) * qv (n.s c))) + 1 / 10000000 ∧ (T * qv (inF n c) + T * (qv (outF n.g c) * qv (n.s c))) - qv (sT n t c) ≤ 1 / 1000000 * (T * qv (inF n c) + T * (qv (outF n.g c) * qv (n.s c))) + 1 / 10000000 := fun c hm => by
    obtain ⟨g, g1, g2, g3, g4⟩ := (htm c hm).2.2.2.2.2
    rw [g1.qv]; exact ⟨g1, g2, by grind, by grind⟩
  have g1 := rsum_near (f := fun c => qv (gT n t c)) (g := fun c => T * qv (inF n c) - T * (qv (outF n.g c) * qv (n.s c))) (u := fun c => T * qv (inF n c) + T * (qv (outF n.g c) * qv (n.s c))) (a := 1 / 1000000) (b := 1 / 10000000) L fun c hm => (hg c hm).2.1
  have g2 := rsum_near (f := fun c => T * qv (inF n c) - T * (qv (outF n.g c) * qv (n.s c))) (g := fun c => qv (gT n t c)) (u := fun c => T * qv (inF n c) + T * (qv (outF n.g c) * qv (n.s c))) (a := 1 / 1000000) (b := 1 / 10000000) L fun c hm => (hg c hm).2.2
  have v1 := rsum_near (f := fun c => qv (sT n t c)) (g := fun c => T * qv (inF n c) + T * (qv (outF n.g c) * qv (n.s c))) (u := fun c => T * qv (inF n c) + T * (qv (outF n.g c) * qv (n.s c))) (a := 1 / 1000000) (b := 1 / 10000000) L fun c hm => (hv c hm).2.2.1
  have v2 := rsum_near (f := fun c => T * qv (inF n c) + T * (qv (outF n.g c) * qv (n.s c))) (g := fun c => qv (sT n t c)) (u := fun c => T * qv (inF n c) + T * (qv (outF n.g c) * qv (n.s c))) (a := 1 / 1000000) (b := 1 / 10000000) L fun c hm => (hv c hm).2.2.2
  have v0 := rsum_pos (f := fun c => qv (sT n t c)) L fun c hm => (hv c hm).2.1
  have ww := rsum_near (f := fun c => (T * qv (inF n c) + T * (qv (outF n.g c) * qv (n.s c))) * (1000001 / 1000000) + 1 / 10000000) (g := fun _ => 0) (u := fun c => T * qv (inF n c) + T * (qv (outF n.g c) * qv (n.s c))) (a := 1000001 / 1000000) (b := 1 / 10000000) L fun c hm => by
    show (T * qv (inF n c) + T * (qv (outF n.g c) * qv (n.s c))) * (1000001 / 1000000) + 1 / 10000000 - 0 ≤ _
    grind
  rw [rsum_zero] at ww
  rw [rsum_sub] at g1 g2
  rw [rsum_add] at g1 g2 v1 v2
  rw [rsum_add (f := fun c => T * qv (inF n c)) (g := fun c => T * (qv (outF n.g c) * qv (n.s c)))] at ww
  have w0 := rsum_pos (f := fun c => (T * qv (inF n c) + T * (qv (outF n.g c) * qv (n.s c))) * (1000001 / 1000000) + 1 / 10000000) L fun c hm => by
    have := (htm c hm).1
    have := (htm c hm).2.2.1
    show 0 ≤ (T * qv (inF n c) + T * (qv (outF n.g c) * qv (n.s c))) * (1000001 / 1000000) + 1 / 10000000
    grind
  generalize hP : rsum (fun c => T * qv (inF n c)) L = P at *
  generalize hQ : rsum (fun c => T * (qv (outF n.g c) * qv (n.s c))) L = Q at *
  -- gained
  have hPQ : P ≤ 38400000000000 ∧ Q ≤ 38400000000000 := by
    clear hs hs' hcel htm hg hv hm' hdiff hle k1 k2 g1 g2 v1 v2 ww w0 h hc h1
    constructor <;> grind
  have hA0 : A ≤ 200000000000 ∧ B ≤ 200000000000 := by
    clear hs hs' hcel htm hg hv hm' hdiff hle k1 k2 g1 g2 v1 v2 ww w0 h hc h1
    constructor <;> grind
  have wW : rsum (fun c => (T * qv (inF n c) + T * (qv (outF n.g c) * qv (n.s c))) * (1000001 / 1000000) + 1 / 10000000) L ≤ (P + Q) * (1000001 / 1000000) + 1 / 100000 := by
    generalize rsum (fun c => (T * qv (inF n c) + T * (qv (outF n.g c) * qv (n.s c))) * (1000001 / 1000000) + 1 / 10000000) L = W at *
    clear hs hs' hcel htm hg hv hm' hdiff hle k1 k2 g1 g2 v1 v2 h hc h1
    grind
  have wU : rsum (fun c => qv (sT n t c)) L ≤ P + Q + (P + Q) / 1000000 + 1 / 100000 ∧ P + Q - (P + Q) / 1000000 - 1 / 100000 ≤ rsum (fun c => qv (sT n t c)) L := by
    generalize rsum (fun c => qv (sT n t c)) L = U at *
    clear hs hs' hcel htm hg hv hm' hdiff hle k1 k2 g1 g2 ww w0 h hc h1
    constructor <;> grind
  have wG : rsum (fun c => qv (gT n t c)) L - (P - Q) ≤ (P + Q) / 1000000 + 1 / 150000 ∧ (P - Q) - rsum (fun c => qv (gT n t c)) L ≤ (P + Q) / 1000000 + 1 / 150000 := by
    generalize rsum (fun c => qv (gT n t c)) L = U at *
    clear hs hs' hcel htm hg hv hm' hdiff hle k1 k2 v1 v2 ww w0 h hc h1
    constructor <;> grind
  have wk : Y - X - (P - Q) ≤ (X + P) / 500000 + 1 / 500000 ∧ (P - Q) - (Y - X) ≤ (X + P) / 500000 + 1 / 500000 := by
    rw [← hdiff] at k1 k2
    generalize rsum (fun c => R * qv (n.s c)) L = U at *
    clear hs hs' hcel htm hg hv hm' hdiff g1 g2 v1 v2 ww w0 h hc h1
    constructor <;> grind
  clear k1 k2 g1 g2 v1 v2 ww hdiff hle P1 Q1 l1 l2 l3
  have hgr := fun c hm => (htm c hm).1
  have hgq := fun c hm => (htm c hm).2.2.1
  clear htm hcel hm' hs hs'
  obtain ⟨G, hG, G1, G2, _, _⟩ := acc_near (d := gT n t) (r := fun c => qv (gT n t c)) (w := fun c => (T * qv (inF n c) + T * (qv (outF n.g c) * qv (n.s c))) * (1000001 / 1000000) + 1 / 10000000) (w0 := 0) (W := rsum (fun c => (T * qv (inF n c) + T * (qv (outF n.g c) * qv (n.s c))) * (1000001 / 1000000) + 1 / 10000000) L) rv_zero (by grind) (by grind) w0 (by clear hg hv hgr hgq; grind) L
    (fun c hm => by
      obtain ⟨k1, k2, k3⟩ := hg c hm
      have p0 := hgr c hm
      have q0 := hgq c hm
      refine ⟨k1, ?_, ?_⟩
      · show -((T * qv (inF n c) + T * (qv (outF n.g c) * qv (n.s c))) * (1000001 / 1000000) + 1 / 10000000) ≤ qv (gT n t c)
        generalize T * qv (inF n c) = p at *
        generalize T * (qv (outF n.g c) * qv (n.s c)) = q at *
        clear hg hv hgr hgq w0 wW
        grind
      · show qv (gT n t c) ≤ (T * qv (inF n c) + T * (qv (outF n.g c) * qv (n.s c))) * (1000001 / 1000000) + 1 / 10000000
        generalize T * qv (inF n c) = p at *
        generalize T * (qv (outF n.g c) * qv (n.s c)) = q at *
        clear hg hv hgr hgq w0 wW
        grind) (by rw [Rat.zero_add]; exact Rat.le_refl) hlenF
  obtain ⟨l4, _⟩ := len64 hlenF (K := rsum (fun c => (T * qv (inF n c) + T * (qv (outF n.g c) * qv (n.s c))) * (1000001 / 1000000) + 1 / 10000000) L / 8000000 + 2 / 1000000000000) (by clear hg hv hgr hgq; grind)
  generalize rsum (fun c => (T * qv (inF n c) + T * (qv (outF n.g c) * qv (n.s c))) * (1000001 / 1000000) + 1 / 10000000) L = W at *
  have hvp : ∀ c ∈ L, 0 ≤ qv (sT n t c) := fun c hm => (hv c hm).2.1
  have hvv : ∀ c ∈ L, RV (sT n t c) (qv (sT n t c)) := fun c hm => (hv c hm).1
  clear hg hv hgr hgq h hc h1
  have G3 : G - (P - Q) ≤ (P + Q) / 50000 + 1 / 100000 := by
    have e1 := wG.1
    generalize rsum (fun c => qv (gT n t c)) L = U at *
    clear hvp hvv
    grind
  have G4 : (P - Q) - G ≤ (P + Q) / 50000 + 1 / 100000 := by
    have e1 := wG.2
    generalize rsum (fun c => qv (gT n t c)) L = U at *
    clear hvp hvv
    grind
  clear G1 G2 l4 wW wG
  -- the scale
  obtain ⟨Z, hZ, hZn, _, hZ2⟩ := hB.add hA (by clear hvp hvv; grind) (by clear hvp hvv; grind)
  obtain ⟨z1, z2⟩ := hZn (A + B) (by clear hvp hvv; grind) (by clear hvp hvv; grind)
  have Z0 : 0 ≤ Z := hZ2 _ _ rv_zero (by clear hvp hvv; grind)
  obtain ⟨S, hS, S1, S2, _, _, S0⟩ := acc_near (d := sT n t) (r := fun c => qv (sT n t c)) (w := fun c => qv (sT n t c)) (w0 := Z) (W := Z + rsum (fun c => qv (sT n t c)) L) hZ (by clear hvp hvv; grind) (by clear hvp hvv; grind) (by clear hvp hvv; grind) (by clear hvp hvv; grind) L
    (fun c hm => by
      have k2 := hvp c hm
      exact ⟨hvv c hm, by show -qv (sT n t c) ≤ qv (sT n t c); clear hvp hvv; grind, Rat.le_refl⟩) Rat.le_refl hlenF
  have S0 := S0 Z0 hvp
  clear hvp hvv
  obtain ⟨l5, _⟩ := len64 hlenF (K := (Z + rsum (fun c => qv (sT n t c)) L) / 8000000 + 2 / 1000000000000) (by grind)
  obtain ⟨u1, u2⟩ := wU
  generalize rsum (fun c => qv (sT n t c)) L = U at *
  have S4 : (X + Y + P + Q) - S ≤ (X + Y + P + Q) / 20000 + 1 / 20000 := by grind
  have S5 : S ≤ 1000000000000000 := by grind
  clear S1 S2 l5 u1 u2 hZn hZ2 z1 z2
  obtain ⟨D, hD, hDn, _, _⟩ := hA.sub hB (by grind) (by grind)
  obtain ⟨d1, d2⟩ := hDn (A + B) (by grind) (by grind)
  obtain ⟨wk1, wk2⟩ := wk
  obtain ⟨E, hE, hEn, _, _⟩ := hD.sub hG (by grind) (by grind)
  have r1 : D - G ≤ (X + Y + P + Q + 1) := by grind
  have r2 : -(D - G) ≤ (X + Y + P + Q + 1) := by grind
  obtain ⟨e1, e2⟩ := hEn (X + Y + P + Q + 1) r1 r2
  have hp0 : 0 ≤ X + Y + P + Q + 1 := by clear r1 r2 e1 e2 hEn hDn; grind
  have m0 : 0 ≤ S * (13743895 / 137438953472) := by grind
  obtain ⟨M, hM, M0, m2, m3⟩ := mul_near (B := 1000000000000000) hS rv_tiny4 m0 (by grind) (by grind)
  have M1 : M ≤ 1000000000000000 := by
    clear hEn hDn r1 r2 e1 e2 d1 d2 wk1 wk2 G3 G4 S4 a1 a2 b1 b2
    grind
  obtain ⟨V, hV, _, v2, v3⟩ := add_near (B := 10000000000000000) hM rv_tiny4 M0 (by grind) (by clear hEn hDn r1 r2 e1 e2 d1 d2 wk1 wk2 G3 G4 S4 a1 a2 b1 b2; grind) (by grind)
  obtain ⟨k1, k2⟩ := kept_num (D := D) X0 Y0 P0 b1 b2 a1 a2 G3 G4 S4 wk1 wk2 (near_w d1) (near_w d2) (near_v e1 hp0) (near_v e2 hp0) m2 v2
  exact ⟨A, B, E, V, hB, hA, hE, hV, k1, k2, by clear hEn hDn r1 r2 e1 e2 d1 d2 wk1 wk2 G3 G4 S4 a1 a2 b1 b2 k1 k2 v2 m2; grind⟩
end Go.Proofs.Ytfcphfdfpjmgiaa

namespace Go.Proofs.Ytfcphfdfpjmgiaa
open Go.RowKit

theorem quotient_numK {k : Nat} {x y d : Ieee.Datum} (h : x.quotient k y = some d) : d.isNaN = false := by
  cases x with
  | nan => cases h
  | infinity s => cases y with
    | nan => cases h
    | infinity t => cases h
    | number t n j => cases h; rfl
  | number s m i => cases y with
    | nan => cases h
    | infinity t => cases h; rfl
    | number t n j =>
      simp only [Ieee.Datum.quotient] at h
      by_cases h0 : n = 0
      · rw [if_pos h0] at h
        by_cases h2 : m = 0
        · rw [if_pos h2] at h; cases h
        · rw [if_neg h2] at h; cases h; rfl
      · rw [if_neg h0] at h; cases h; rfl

theorem fdiv_fitsK (x y : F) : Fits (fdiv x y) := by
  intro b h
  cases x with
  | none => cases h
  | some p => cases y with
    | none => cases h
    | some q =>
      have h' : ((Ieee.single.read p).quotient (Ieee.single.fractionBits + 2) (Ieee.single.read q)).map Ieee.single.write = some b := h
      cases hd : (Ieee.single.read p).quotient (Ieee.single.fractionBits + 2) (Ieee.single.read q) with
      | none => rw [hd] at h'; cases h'
      | some d => rw [hd] at h'; cases h'; exact write_fits d (quotient_numK hd)
theorem zero_bits {x : F} (h : RV x 0) (fx : Fits x) : x = some 0 ∨ x = some 2147483648 := by
  obtain ⟨v, hv, hq⟩ := h
  have hv0 : v = 0 := by
    have : (v : Rat) = ((0 : Int) : Rat) := by rw [← hq]; show 0 * uQ = 0; grind
    exact Rat.intCast_inj.1 this
  subst hv0
  obtain ⟨a, s, m, e, rfl, ha, _, e1⟩ := hv
  have ga := num_rung ha
  obtain ⟨m', e', k1, k2, k3, k4⟩ := read_rung a ga
  rw [ha] at k1
  cases k1
  have fa := fx a rfl
  rw [signed_eq] at e1
  have hp := Nat.two_pow_pos (e + 149).toNat
  have hm : m = 0 := by
    rcases Nat.eq_zero_or_pos m with h | h
    · exact h
    · exfalso
      have := Nat.mul_pos h hp
      generalize m * 2 ^ (e + 149).toNat = P at *
      split at e1 <;> omega
  subst hm
  have : a % 2147483648 = 0 := by omega
  have : a = 0 ∨ a = 2147483648 := by omega
  rcases this with rfl | rfl
  · exact .inl rfl
  · exact .inr rfl
/-- No flow anywhere. -/
structure Stl (x : Br) (y : N) : Prop where
  d : DrawnB x
  c : y.g.c = x.n.g.c
  wide : y.g.wide = x.n.g.wide
  high : y.g.high = x.n.g.high
  fixed : y.g.fixed = x.n.g.fixed
  g : ∀ k, k < 64 → y.g.g k = some 0
  h : ∀ k, k < 64 → y.g.h k = some 0
  s : y.s = x.n.s
  p : y.p = x.n.p
  room : y.room = x.n.room
theorem Stl.cell {x : Br} {y : N} (h : Stl x y) {k : Nat} : IsCell y.g k ↔ IsCell x.n.g k := by
  unfold IsCell; rw [h.wide, h.high]
theorem Stl.flow {x : Br} {y : N} (h : Stl x y) {k s : Nat} (hk : IsCell y.g k) : RV (flow y.g k s) 0 := by
  obtain ⟨N⟩ := h.d.gr.nums
  have hk' := h.cell.1 hk
  by_cases hb : beside y.g.wide y.g.high k s < 0
  · rw [flow_no hb]; exact rv_zero
  · obtain ⟨n, hn⟩ : ∃ n : Nat, beside y.g.wide y.g.high k s = n := ⟨(beside y.g.wide y.g.high k s).toNat, by omega⟩
    have hn' : IsCell x.n.g n := beside_cell (sized_of h.d.gr.ok) hk.1 (by have e := hn; rw [h.wide, h.high] at e; exact e)
    have e0 : fsub (some 0) (some 0) = some 0 := by decide
    unfold Proofs.Ytfcphfdfpjmgiaa.flow
    rw [if_neg hb, hn, Int.toNat_natCast, h.h k hk.1, h.h n hn'.1, e0, h.c]
    obtain ⟨r, hr, _, h3, h4⟩ := (N.rvj hk' hn').mul rv_zero (by grind) (by grind)
    have e : r = 0 := Rat.le_antisymm (h3 _ _ rv_zero (by grind)) (h4 _ _ rv_zero (by grind))
    rw [e] at hr
    exact hr
theorem Stl.out {x : Br} {y : N} (h : Stl x y) {k : Nat} (hk : IsCell y.g k) : outF y.g k = some 0 ∧ inF y k = some 0 := by
  have f1 : ∀ s, fgt (Proofs.Ytfcphfdfpjmgiaa.flow y.g k s) (some 0) = false := fun s => by rw [(h.flow hk).gt rv_zero]; exact decide_eq_false (by grind)
  have f2 : ∀ s, flt (Proofs.Ytfcphfdfpjmgiaa.flow y.g k s) (some 0) = false := fun s => by rw [(h.flow hk).lt rv_zero]; exact decide_eq_false (by grind)
  have g1 : fgt (y.g.g k) (some 0) = false := by rw [h.g k hk.1]; decide
  have g2 : flt (y.g.g k) (some 0) = false := by rw [h.g k hk.1]; decide
  constructor
  · rw [outF_no g2, outTo_no (f1 3), outTo_no (f1 2), outTo_no (f1 1), outTo_no (f1 0)]; rfl
  · rw [inF_no g1, inTo_no (f2 3), inTo_no (f2 2), inTo_no (f2 1), inTo_no (f2 0)]; rfl
theorem zero_quot {t r : F} {T R : Rat} (ht : RV t T) (hr : RV r R) (R1 : 1 ≤ R) : RV (fdiv (fmul t (some 0)) r) 0 := by
  obtain ⟨q, hq, _, h3, h4⟩ := ht.mul rv_zero (by grind) (by grind)
  have e : q = 0 := Rat.le_antisymm (h3 _ _ rv_zero (by grind)) (h4 _ _ rv_zero (by grind))
  subst e
  have z : (0 : Rat) / R = 0 := by rw [Rat.div_def, Rat.zero_mul]
  obtain ⟨q, hq, _, h3, h4⟩ := hq.div hr (by grind) (by rw [z]; grind) (by rw [z]; grind)
  have e : q = 0 := Rat.le_antisymm (h4 (by grind)) (h3 (by grind))
  rw [e] at hq
  exact hq
theorem one_fits : Fits (some 1065353216) := fun b e => by cases e; omega
theorem Stl.mv {x : Br} {y : N} (h : Stl x y) {t : F} {T : Rat} (ht : RV t T) {k : Nat} (hk : IsCell y.g k) : mvS y t k = y.s k := by
  obtain ⟨R, hR, R1, R2⟩ := h.d.sane.rm
  have hR' : RV y.room R := by rw [h.room]; exact hR
  obtain ⟨o1, o2⟩ := h.out hk
  have hp := zero_quot ht hR' R1
  have hone : fsub (some 1065353216) (fdiv (fmul t (some 0)) y.room) = some 1065353216 := by
    obtain ⟨q, hq, _, h3, h4⟩ := rv_one.sub hp (by grind) (by grind)
    have e : q = 1 := Rat.le_antisymm (h3 _ _ rv_one (by grind)) (h4 _ _ rv_one (by grind))
    rw [e] at hq
    exact hq.bits rv_one (by decide +kernel) (fsub_fits _ _) one_fits
  unfold mvS partF
  rw [o1, o2, hone]
  have hs : y.s k = fb (x.s k) := by rw [h.s]; exact fm_of hk.1
  have hd := (h.d.cell k hk.1 (h.cell.1 hk).2).1
  obtain ⟨s, hsv, s0, s1⟩ := rv_salt hd
  have hlt : x.s k < 2147483648 := by
    rcases hd with ⟨z, z1, e⟩ | e
    · rw [e]; exact qb_small ⟨z, by omega⟩
    · omega
  have fx : Fits (fb (x.s k)) := fun b hb => by
    have := fb_bits hb
    omega
  rw [hs]
  by_cases hz : s = 0
  · subst hz
    rcases zero_bits hsv fx with e | e
    · rw [e]
      have e1 : fmul (some 0) (some 1065353216) = some 0 := by decide
      rw [e1]
      rcases zero_bits hp (fdiv_fitsK _ _) with e2 | e2
      · rw [e2]; decide
      · rw [e2]; decide
    · exfalso
      have := fb_bits e
      omega
  · obtain ⟨q, hq, _, h3, h4⟩ := hsv.mul rv_one (by grind) (by grind)
    have e : q = s := Rat.le_antisymm (h3 _ _ hsv (by grind)) (h4 _ _ hsv (by grind))
    rw [e] at hq
    obtain ⟨q, hq', _, h3, h4⟩ := hq.add hp (by grind) (by grind)
    have e : q = s := Rat.le_antisymm (h3 _ _ hsv (by grind)) (h4 _ _ hsv (by grind))
    rw [e] at hq'
    exact hq'.bits hsv hz (fadd_fits _ _) fx
theorem Stl.mvT {x : Br} {y : N} (h : Stl x y) {t : F} {T : Rat} (ht : RV t T) : mvT y t = y := by
  have e : updL y.s (mvS y t) (freeL y.g 64) = y.s := by
    funext c
    by_cases hc : c ∈ freeL y.g 64
    · rw [updL_in hc]; exact h.mv ht (free64.1 hc).1
    · exact updL_out hc
  unfold Proofs.Ytfcphfdfpjmgiaa.mvT
  rw [e]
theorem Stl.ok {x : Br} {y : N} (h : Stl x y) : okB y = true := by
  have hs := h.d.sane
  have hx := hs.ok
  have f0 : feq (some 0) (some 0) = true := by decide
  have hf : ∀ f : Nat → F, (∀ k, k < 64 → f k = some 0) → fieldTo x.n.g.wide x.n.g.high plain f 64 = true := fun f hf => by
    unfold fieldTo
    rw [List.all_eq_true]
    intro j hj
    rw [hf j (List.mem_range.1 hj)]
    cases hasB x.n.g.wide x.n.g.high j
    · exact f0
    · exact zero_plain
  refine SaneB.okB ⟨?_, fun k hk => ?_, fun k hk hh => ?_, fun k hk => ?_, fun k hk hh => ?_, ?_⟩
  · have hz : sized y.g := by
      have := sized_of hx
      unfold sized at this ⊢
      rw [h.wide, h.high]; exact this
    unfold okI at hx ⊢
    rw [decide_eq_true hz]
    unfold fieldsI fixedOk cellsM at hx ⊢
    rw [h.c, h.wide, h.high, h.fixed, hf _ h.g, hf _ h.h]
    simp only [Bool.and_eq_true] at hx ⊢
    exact ⟨⟨trivial, ⟨hx.1.2.1.1, trivial⟩, trivial⟩, hx.2⟩
  · rw [h.s]; exact hs.s1 k (h.cell.1 hk)
  · rw [h.s]; rw [h.wide, h.high] at hh; exact hs.s0 k hk hh
  · rw [h.p]; exact hs.p1 k (h.cell.1 hk)
  · rw [h.p]; rw [h.wide, h.high] at hh; exact hs.p0 k hk hh
  · rw [h.room]; exact hs.rm
theorem Stl.times {x : Br} {y : N} (h : Stl x y) {t : F} {T : Rat} (ht : RV t T) (t0 : 0 ≤ T) (t1 : T ≤ 1048576) {k : Nat} (hk : k ≤ 1000) : timesR y t (k : Int) = (y, 0) := by
  have hm := h.mvT ht
  have hrun : ∀ j, mvRun y t j = some y := by
    intro j
    induction j with
    | zero => rfl
    | succ j ih => rw [mvRun_yes ih (by rw [hm]; exact h.ok), hm]
  have hsm : smallB y t = true := by
    obtain ⟨R, hR, R1, R2⟩ := h.d.sane.rm
    have hR' : RV y.room R := by rw [h.room]; exact hR
    unfold smallB smallTo
    rw [amount_rv ht t0 t1, Bool.true_and, List.all_eq_true]
    intro c hc
    unfold partF
    rw [(h.out (free64.1 hc).1).1, (zero_quot ht hR' R1).le rv_one]
    exact decide_eq_true (by grind)
  unfold timesR
  rw [if_pos h.ok, decide_eq_true (show (0 : Int) ≤ (k : Int) by omega), decide_eq_true (show (k : Int) ≤ 1000 by omega), hsm, if_pos (show (true && true && true) = true from rfl), Int.toNat_natCast, hrun k]
theorem abs_le {x : F} {q V : Rat} (h : RV x q) (h1 : -V ≤ q) (h2 : q ≤ V) (h3 : V ≤ 1000000000000000000) : ∃ p, RV (fabs x) p ∧ p ≤ V := by
  unfold fabs
  rw [h.le rv_zero]
  by_cases hq : q ≤ 0
  · rw [decide_eq_true hq, if_pos rfl]
    obtain ⟨r, k1, _, k3, _⟩ := rv_zero.sub h (by grind) (by grind)
    obtain ⟨z, hz⟩ := h.neg
    have l1 := k3 z _ hz (by grind)
    exact ⟨r, k1, by grind⟩
  · rw [decide_eq_false hq, if_neg (by decide)]
    exact ⟨q, h, h2⟩
theorem of100_all : ∀ z : Fin 100, valF (ofI (z.val : Int)) = some ((z.val : Int) * (2 ^ 149 : Nat)) := by decide +kernel
theorem rv_of100 {z : Nat} (hz : z < 100) : RV (ofI (z : Int)) (z : Rat) ∧ (0 : Rat) ≤ (z : Rat) ∧ (z : Rat) ≤ 100 := by
  refine ⟨RV.of (of100_all ⟨z, hz⟩) ?_, ?_, ?_⟩
  · rw [Rat.intCast_mul, uQ_eq]; rfl
  · have : ((0 : Int) : Rat) ≤ ((z : Int) : Rat) := Rat.intCast_le_intCast.2 (by omega)
    exact this
  · have : ((z : Int) : Rat) ≤ ((100 : Int) : Rat) := Rat.intCast_le_intCast.2 (by omega)
    exact this
theorem stl_of {x : Br} (h : DrawnB x) {h' g' : Nat → Nat} (h1 : ∀ k, k < 64 → h' k = 0) (h2 : ∀ k, k < 64 → g' k = 0) : Stl x (withHG x h' g').n := by
  refine ⟨h, rfl, rfl, rfl, rfl, fun k hk => ?_, fun k hk => ?_, rfl, rfl, rfl⟩
  · show fm g' k = _
    rw [fm_of hk, h2 k hk]; exact fb0
  · show fm h' k = _
    rw [fm_of hk, h1 k hk]; exact fb0
end Go.Proofs.Ytfcphfdfpjmgiaa
