/- A region that draws its order and holds calls whose results lie in memory, reads of memory that is there, and new variables: walked in the order of the text, whatever order is drawn. The calls come in their order; a read may come at any time; a new variable may come at any time and is known at the end. -/
import Derived.Test.YtonmdkhfongmhaaTail
import Derived.Test.YtonmdkhfongmhaaMem
namespace Go.Proofs.Ytonmdkhfongmhaa
open Go.RowKit

section
variable {P : Program} {ops : Array Oper} {md : Region.Mode}

/-- A world that keeps all memory of an earlier one, but for some blocks. -/
structure Cls (w0 : World) (S : List Nat) (w' : World) : Prop where
  os : w'.os = w0.os
  tape : w'.tape = w0.tape
  output : w'.output = w0.output
  size : w0.heap.size ≤ w'.heap.size
  block : ∀ k, k < w0.heap.size → k ∉ S → w'.heap[k]? = w0.heap[k]?
theorem Cls.of_below {w0 w' : World} {S : List Nat} (h : Below w0.heap.size w0 w') : Cls w0 S w' := ⟨h.os, h.tape, h.output, h.size, fun k hk _ => h.block k hk⟩
theorem Cls.below {w0 w' : World} (h : Cls w0 [] w') : Below w0.heap.size w0 w' := ⟨h.os, h.tape, h.output, h.size, fun k hk => h.block k hk (by simp)⟩
theorem Cls.blk {w0 w' : World} {S : List Nat} (h : Cls w0 S w') {g : Nat} {cs : Array Value} {t : TypeId} (hb : Blk w0 g cs t) (hg : g ∉ S) : Blk w' g cs t := (h.block g hb.lt hg).trans hb
theorem Cls.cell {w0 w' : World} {S : List Nat} (h : Cls w0 S w') {b o : Nat} {v : Value} (hc : w0.cell? ⟨b, o, none⟩ = some v) (hb : b ∉ S) : w'.cell? ⟨b, o, none⟩ = some v := by
  have hlt : b < w0.heap.size := block_lt_of_cell hc
  rw [← hc]; exact World.cell?_of_block (w := w0) (h.block b hlt hb)
theorem Cls.grown {w0 w w' : World} {S : List Nat} (h : Cls w0 S w) {r : Nat} (hg : w.grownBy w' (some r)) (hr : w0.heap.size ≤ r ∨ r ∈ S) : Cls w0 S w' :=
  ⟨hg.os.trans h.os, hg.tape.trans h.tape, hg.output.trans h.output, Nat.le_trans h.size hg.size, fun k hk hS => (hg.block k (Nat.lt_of_lt_of_le hk h.size) (fun e => by cases e; rcases hr with hr | hr; exact absurd hk (by omega); exact hS hr)).trans (h.block k hk hS)⟩
def ExtS (w0 : World) (S : List Nat) : Type := { w' : World // Cls w0 S w' }
instance (w0 : World) (S : List Nat) : Nonempty (ExtS w0 S) := ⟨⟨w0, ⟨rfl, rfl, rfl, Nat.le_refl _, fun _ _ _ => rfl⟩⟩⟩
def extS (w0 : World) (S : List Nat) (x : ExtS w0 S) : World := x.1
theorem extS_cell (w0 : World) (S : List Nat) (x : ExtS w0 S) {b o : Nat} {v : Value} (h : w0.cell? ⟨b, o, none⟩ = some v) (hb : b ∉ S) : (extS w0 S x).cell? ⟨b, o, none⟩ = some v := x.2.cell h hb

def isCallB (o : Oper) : Bool := match o.op with | .call c => (match c.callee with | .value _ => true | _ => false) | _ => false
def isAllocB (o : Oper) : Bool := match o.op with | .alloc _ => true | _ => false
def isStoreB (o : Oper) : Bool := match o.op with | .store _ _ _ => true | _ => false
theorem isAllocB_of {o : Oper} {T : TypeId} (h : o.op = .alloc T) : isAllocB o = true := by unfold isAllocB; rw [h]

/-- One operation: it reads, or calls, or makes a variable. -/
def cOp (P : Program) (ops : Array Oper) (w0 : World) (S : List Nat) (Zs : TypeId → Array Value) (o : Oper) (K : Act → World → (World → Prop) → Prop) (a : Act) (w : World) (Φ : World → Prop) : Prop :=
  if Region.wanted o (yielded ops a.tmps) = true then
    (∃ v, (∀ w', Cls w0 S w' → (execOp a.eval o).run P w' = .ok (.value v) w') ∧ K (a.put o.dst v) w Φ) ∨
    (isCallB o = true ∧ ∃ f args, (∀ w', Cls w0 S w' → (execOp a.eval o).run P w' = .ok (.enter f args) w') ∧
      ∀ w2, Below w.heap.size w w2 → Calls P f args w2 fun e w'' => ∃ v, e = .returned v ∧ Below w2.heap.size w2 w'' ∧ K (a.put o.dst v) w'' Φ) ∨
    (∃ T, o.op = .alloc T ∧ (∀ w', (execOp a.eval o).run P w' = .ok (.value (.pointer (some ⟨w'.heap.size, 0, none⟩))) (w'.alloc (.cells (Zs T) T))) ∧
      ∀ B, w0.heap.size ≤ B → K (a.put o.dst (.pointer (some ⟨B, 0, none⟩))) w fun w' => Φ w' ∧ B < w'.heap.size ∧ Blk w' B (Zs T) T) ∨
    (isStoreB o = true ∧ ∀ w2, Below w.heap.size w w2 → Φ w2 → ∃ w3, (execOp a.eval o).run P w2 = .ok .skip w3 ∧ Cls w0 S w3 ∧ K (a.put o.dst undef) w3 fun _ => True)
  else K (a.put o.dst undef) w Φ

def AntiK (K : Act → World → (World → Prop) → Prop) : Prop := ∀ a w Φ Φ', (∀ w, Φ' w → Φ w) → K a w Φ → K a w Φ'
def LaterK (K : Act → World → (World → Prop) → Prop) : Prop := ∀ a w w2 Φ, Below w.heap.size w w2 → K a w Φ → K a w2 Φ

variable {w0 : World} {S : List Nat} {Zs : TypeId → Array Value}

theorem below_on {w w2 : World} (h : Cls w0 S w) (h2 : Below w.heap.size w w2) : Cls w0 S w2 := ⟨h2.os.trans h.os, h2.tape.trans h.tape, h2.output.trans h.output, Nat.le_trans h.size h2.size, fun k hk hS => (h2.block k (Nat.lt_of_lt_of_le hk h.size)).trans (h.block k hk hS)⟩
theorem below_thru {w w2 w3 : World} (h : Below w.heap.size w w2) (h2 : Below w2.heap.size w2 w3) : Below w.heap.size w w3 := h.trans (h2.mono h.size)

theorem cOp_mono {o : Oper} {K K' : Act → World → (World → Prop) → Prop} (h : ∀ a w Φ, Cls w0 S w → K a w Φ → K' a w Φ) {a : Act} {w : World} {Φ : World → Prop} (hw : Cls w0 S w)
    (hh : cOp P ops w0 S Zs o K a w Φ) : cOp P ops w0 S Zs o K' a w Φ := by
  unfold cOp at *
  split
  · rename_i hwd
    rw [if_pos hwd] at hh
    rcases hh with ⟨v, hr, hk⟩ | ⟨hc, f, args, hr, hk⟩ | ⟨T, hT, hr, hk⟩ | ⟨hs, hk⟩
    · exact .inl ⟨v, hr, h _ _ _ hw hk⟩
    · exact .inr (.inl ⟨hc, f, args, hr, fun w2 h2 => (hk w2 h2).mono fun e w'' ⟨v, he, hb, hk'⟩ => ⟨v, he, hb, h _ _ _ (below_on (below_on hw h2) hb) hk'⟩⟩)
    · exact .inr (.inr (.inl ⟨T, hT, hr, fun B hB => h _ _ _ hw (hk B hB)⟩))
    · exact .inr (.inr (.inr ⟨hs, fun w2 h2 hΦ => (hk w2 h2 hΦ).imp fun w3 ⟨h1, h2, h3⟩ => ⟨h1, h2, h _ _ _ h2 h3⟩⟩))
  · rename_i hwd
    rw [if_neg hwd] at hh
    exact h _ _ _ hw hh

theorem cOp_anti {o : Oper} {K : Act → World → (World → Prop) → Prop} (hK : AntiK K) : AntiK (cOp P ops w0 S Zs o K) := by
  intro a w Φ Φ' hΦ hh
  unfold cOp at *
  split
  · rename_i hwd
    rw [if_pos hwd] at hh
    rcases hh with ⟨v, hr, hk⟩ | ⟨hc, f, args, hr, hk⟩ | ⟨T, hT, hr, hk⟩ | ⟨hs, hk⟩
    · exact .inl ⟨v, hr, hK _ _ _ _ hΦ hk⟩
    · exact .inr (.inl ⟨hc, f, args, hr, fun w2 h2 => (hk w2 h2).mono fun e w'' ⟨v, he, hb, hk'⟩ => ⟨v, he, hb, hK _ _ _ _ hΦ hk'⟩⟩)
    · exact .inr (.inr (.inl ⟨T, hT, hr, fun B hB => hK _ _ _ _ (fun w' h => ⟨hΦ _ h.1, h.2⟩) (hk B hB)⟩))
    · exact .inr (.inr (.inr ⟨hs, fun w2 h2 hΦ2 => hk w2 h2 (hΦ _ hΦ2)⟩))
  · rename_i hwd
    rw [if_neg hwd] at hh
    exact hK _ _ _ _ hΦ hh

theorem cOp_later {o : Oper} {K : Act → World → (World → Prop) → Prop} (hK : LaterK K) : LaterK (cOp P ops w0 S Zs o K) := by
  intro a w w3 Φ hb hh
  unfold cOp at *
  split
  · rename_i hwd
    rw [if_pos hwd] at hh
    rcases hh with ⟨v, hr, hk⟩ | ⟨hc, f, args, hr, hk⟩ | ⟨T, hT, hr, hk⟩ | ⟨hs, hk⟩
    · exact .inl ⟨v, hr, hK _ _ _ _ hb hk⟩
    · exact .inr (.inl ⟨hc, f, args, hr, fun w2 h2 => hk w2 (below_thru hb h2)⟩)
    · exact .inr (.inr (.inl ⟨T, hT, hr, fun B hB => hK _ _ _ _ hb (hk B hB)⟩))
    · exact .inr (.inr (.inr ⟨hs, fun w2 h2 hΦ2 => hk w2 (below_thru hb h2) hΦ2⟩))
  · rename_i hwd
    rw [if_neg hwd] at hh
    exact hK _ _ _ _ hb hh

theorem calls_one {f : FuncId} {args : Array Value} {w : World} {R : Ending → World → Prop} (h : Calls P f args w R) : ∃ e w', R e w' := by
  obtain ⟨e, w', _, hr, _⟩ := h []
  exact ⟨e, w', hr⟩

theorem value_inj {v u : Value} {w w' : World} {r : Result Next} (h : r = .ok (.value v) w) (h' : r = .ok (.value u) w') : v = u := by
  rw [h] at h'; cases h'; rfl

/-- Two operations apart from each other may change places, but for two calls, a call behind a new variable, what stands behind a store, and a store behind a call or a new variable. -/
theorem cOp_swap {x j : Oper} (hap : x.apart ops j = true) (hsx : ∀ cs b, x.op ≠ .select cs b) (hsj : ∀ cs b, j.op ≠ .select cs b)
    (hcc : ¬ (isCallB x = true ∧ isCallB j = true)) (hac : ¬ (isAllocB x = true ∧ isCallB j = true)) (hxs : ¬ isStoreB x = true) (hjs : ¬ (isStoreB j = true ∧ (isCallB x = true ∨ isAllocB x = true)))
    {K : Act → World → (World → Prop) → Prop} (hK : AntiK K) {a : Act} {w : World} {Φ : World → Prop} (hw : Cls w0 S w)
    (h : cOp P ops w0 S Zs x (cOp P ops w0 S Zs j K) a w Φ) : cOp P ops w0 S Zs j (cOp P ops w0 S Zs x K) a w Φ := by
  obtain ⟨h1, h2, h3⟩ := Oper.apart_spec hap
  have ej : ∀ v, execOp (a.put x.dst v).eval j = execOp a.eval j := fun v => execOp_put j hsj a x.dst v h1
  have wj : ∀ v, Region.wanted j (yielded ops (a.put x.dst v).tmps) = Region.wanted j (yielded ops a.tmps) := fun v => wanted_put j a x.dst v h1
  have ex : ∀ v, execOp (a.put j.dst v).eval x = execOp a.eval x := fun v => execOp_put x hsx a j.dst v h3
  have wx : ∀ v, Region.wanted x (yielded ops (a.put j.dst v).tmps) = Region.wanted x (yielded ops a.tmps) := fun v => wanted_put x a j.dst v h3
  have pc : ∀ v u, (a.put x.dst v).put j.dst u = (a.put j.dst u).put x.dst v := fun v u => Act.put_comm a v u h2
  have bad : ∀ {T : TypeId} {u : Value}, (execOp a.eval j).run P w = .ok (.value u) w → (execOp a.eval j).run P w = .ok (.value (.pointer (some ⟨w.heap.size, 0, none⟩))) (w.alloc (.cells (Zs T) T)) → False := fun {T u} p q => by
    rw [p] at q
    have e2 := congrArg (fun r : Result Next => match r with | .ok _ w' => w'.heap.size | .halt _ w' => w'.heap.size) q
    simp at e2
  unfold cOp at *
  simp only [ej, wj] at h
  simp only [ex, wx]
  by_cases hx : Region.wanted x (yielded ops a.tmps) = true
  · rw [if_pos hx] at h
    by_cases hj : Region.wanted j (yielded ops a.tmps) = true
    · rw [if_pos hj]
      simp only [hj, if_true] at h
      simp only [hx, if_true]
      rcases h with ⟨v, hr, hk⟩ | ⟨hc, f, args, hr, hk⟩ | ⟨T, hT, hr, hk⟩ | ⟨hs, hk⟩
      · rcases hk with ⟨u, hr', hk'⟩ | ⟨hc', g, brgs, hr', hk'⟩ | ⟨T', hT', hr', hk'⟩ | ⟨hs', hk'⟩
        · exact .inl ⟨u, hr', .inl ⟨v, hr, by rw [← pc]; exact hk'⟩⟩
        · exact .inr (.inl ⟨hc', g, brgs, hr', fun w2 hb2 => (hk' w2 hb2).mono fun e w'' ⟨u, he, hb, hk⟩ => ⟨u, he, hb, .inl ⟨v, hr, by rw [← pc]; exact hk⟩⟩⟩)
        · exact .inr (.inr (.inl ⟨T', hT', hr', fun B hB => .inl ⟨v, hr, by rw [← pc]; exact hk' B hB⟩⟩))
        · exact .inr (.inr (.inr ⟨hs', fun w2 hb2 hΦ => (hk' w2 hb2 hΦ).imp fun w3 ⟨q1, q2, q3⟩ => ⟨q1, q2, .inl ⟨v, hr, by rw [← pc]; exact q3⟩⟩⟩))
      · obtain ⟨e0, w1, v0, he0, hb0, hk0⟩ := calls_one (hk w (Below.refl _ _))
        rcases hk0 with ⟨u, hr', _⟩ | ⟨hc', _⟩ | ⟨T', hT', hr', _⟩ | ⟨hs', _⟩
        · refine .inl ⟨u, hr', .inr (.inl ⟨hc, f, args, hr, fun w2 hb2 => (hk w2 hb2).mono fun e w'' ⟨v, he, hb, hk'⟩ => ⟨v, he, hb, ?_⟩⟩)⟩
          rcases hk' with ⟨u', hr2, hk'⟩ | ⟨hc', _⟩ | ⟨T', hT', hr2, _⟩ | ⟨hs', _⟩
          · have e1 := value_inj (hr' w hw) (hr2 w hw)
            subst e1
            rw [← pc]; exact hk'
          · exact absurd ⟨hc, hc'⟩ hcc
          · exact (bad (hr' w hw) (hr2 w)).elim
          · exact absurd ⟨hs', .inl hc⟩ hjs
        · exact absurd ⟨hc, hc'⟩ hcc
        · refine .inr (.inr (.inl ⟨T', hT', hr', fun B hB => .inr (.inl ⟨hc, f, args, hr, fun w2 hb2 => (hk w2 hb2).mono fun e w'' ⟨v, he, hb, hk'⟩ => ⟨v, he, hb, ?_⟩⟩)⟩))
          rcases hk' with ⟨u', hr2, hk'⟩ | ⟨hc', _⟩ | ⟨T2, hT2, hr2, hk'⟩ | ⟨hs', _⟩
          · exact (bad (hr2 w hw) (hr' w)).elim
          · exact absurd ⟨hc, hc'⟩ hcc
          · rw [hT'] at hT2
            cases hT2
            rw [← pc]; exact hk' B hB
          · exact absurd ⟨hs', .inl hc⟩ hjs
        · exact absurd ⟨hs', .inl hc⟩ hjs
      · have hkB := hk w0.heap.size (Nat.le_refl _)
        rcases hkB with ⟨u, hr', _⟩ | ⟨hc', _⟩ | ⟨T', hT', hr', _⟩ | ⟨hs', _⟩
        · refine .inl ⟨u, hr', .inr (.inr (.inl ⟨T, hT, hr, fun B hB => ?_⟩))⟩
          rcases hk B hB with ⟨u', hr2, hk'⟩ | ⟨hc', _⟩ | ⟨T', hT', hr2, _⟩ | ⟨hs', _⟩
          · have e1 := value_inj (hr' w hw) (hr2 w hw)
            subst e1
            rw [← pc]; exact hk'
          · exact absurd ⟨isAllocB_of hT, hc'⟩ hac
          · exact (bad (hr' w hw) (hr2 w)).elim
          · exact absurd ⟨hs', .inr (isAllocB_of hT)⟩ hjs
        · exact absurd ⟨isAllocB_of hT, hc'⟩ hac
        · refine .inr (.inr (.inl ⟨T', hT', hr', fun B hB => .inr (.inr (.inl ⟨T, hT, hr, fun B2 hB2 => ?_⟩))⟩))
          rcases hk B2 hB2 with ⟨u', hr2, hk'⟩ | ⟨hc', _⟩ | ⟨T2, hT2, hr2, hk'⟩ | ⟨hs', _⟩
          · exact (bad (hr2 w hw) (hr' w)).elim
          · exact absurd ⟨isAllocB_of hT, hc'⟩ hac
          · rw [hT'] at hT2
            cases hT2
            rw [← pc]
            exact hK _ _ _ _ (fun w' h => ⟨⟨h.1.1, h.2⟩, h.1.2⟩) (hk' B hB)
          · exact absurd ⟨hs', .inr (isAllocB_of hT)⟩ hjs
        · exact absurd ⟨hs', .inr (isAllocB_of hT)⟩ hjs
      · exact absurd hs hxs
    · rw [if_neg hj]
      simp only [hj] at h
      simp only [hx, if_true]
      rcases h with ⟨v, hr, hk⟩ | ⟨hc, f, args, hr, hk⟩ | ⟨T, hT, hr, hk⟩ | ⟨hs, hk⟩
      · exact .inl ⟨v, hr, by rw [← pc]; simpa using hk⟩
      · exact .inr (.inl ⟨hc, f, args, hr, fun w2 hb2 => (hk w2 hb2).mono fun e w'' ⟨v, he, hb, hk'⟩ => ⟨v, he, hb, by rw [← pc]; simpa using hk'⟩⟩)
      · exact .inr (.inr (.inl ⟨T, hT, hr, fun B hB => by rw [← pc]; simpa using hk B hB⟩))
      · exact absurd hs hxs
  · rw [if_neg hx] at h
    simp only [hx]
    by_cases hj : Region.wanted j (yielded ops a.tmps) = true
    · rw [if_pos hj] at h ⊢
      rcases h with ⟨u, hr, hk⟩ | ⟨hc, f, args, hr, hk⟩ | ⟨T, hT, hr, hk⟩ | ⟨hs, hk⟩
      · exact .inl ⟨u, hr, by rw [if_neg (by simp), ← pc]; exact hk⟩
      · exact .inr (.inl ⟨hc, f, args, hr, fun w2 hb2 => (hk w2 hb2).mono fun e w'' ⟨v, he, hb, hk'⟩ => ⟨v, he, hb, by rw [if_neg (by simp), ← pc]; exact hk'⟩⟩)
      · exact .inr (.inr (.inl ⟨T, hT, hr, fun B hB => by rw [if_neg (by simp), ← pc]; exact hk B hB⟩))
      · exact .inr (.inr (.inr ⟨hs, fun w2 hb2 hΦ => (hk w2 hb2 hΦ).imp fun w3 ⟨q1, q2, q3⟩ => ⟨q1, q2, by rw [if_neg (by simp), ← pc]; exact q3⟩⟩))
    · rw [if_neg hj] at h ⊢
      rw [if_neg (by simp), ← pc]
      exact h

/-- The walk in the order of the text. -/
def wpN (P : Program) (ops : Array Oper) (w0 : World) (S : List Nat) (Zs : TypeId → Array Value) (L : Act → World → Prop) : List Oper → Act → World → (World → Prop) → Prop
  | [], a, w, Φ => ∀ w2, Below w.heap.size w w2 → Φ w2 → L a w2
  | o :: rest, a, w, Φ => cOp P ops w0 S Zs o (wpN P ops w0 S Zs L rest) a w Φ

theorem wpN_anti {L : Act → World → Prop} : ∀ l : List Oper, AntiK (wpN P ops w0 S Zs L l)
  | [] => fun _ _ _ _ hΦ h w2 hb hw => h w2 hb (hΦ _ hw)
  | _ :: l => cOp_anti (wpN_anti l)
theorem wpN_later {L : Act → World → Prop} : ∀ l : List Oper, LaterK (wpN P ops w0 S Zs L l)
  | [] => fun _ _ _ _ hb h w2 hb2 hw => h w2 (below_thru hb hb2) hw
  | _ :: l => cOp_later (wpN_later l)

theorem wpN_pull {L : Act → World → Prop} {j : Oper} {ys : List Oper} (hsj : ∀ cs b, j.op ≠ .select cs b) : ∀ (xs : List Oper) (a : Act) (w : World) (Φ : World → Prop), Cls w0 S w →
    (∀ x ∈ xs, x.apart ops j = true ∧ (∀ cs b, x.op ≠ .select cs b) ∧ ¬ (isCallB x = true ∧ isCallB j = true) ∧ ¬ (isAllocB x = true ∧ isCallB j = true) ∧ ¬ isStoreB x = true ∧ ¬ (isStoreB j = true ∧ (isCallB x = true ∨ isAllocB x = true))) →
    wpN P ops w0 S Zs L (xs ++ j :: ys) a w Φ → cOp P ops w0 S Zs j (wpN P ops w0 S Zs L (xs ++ ys)) a w Φ
  | [], _, _, _, _, _, h => h
  | x :: xs, a, w, Φ, hw, hx, h => by
    obtain ⟨h1, h2, h3, h4, h5, h6⟩ := hx x (by simp)
    have h' : cOp P ops w0 S Zs x (wpN P ops w0 S Zs L (xs ++ j :: ys)) a w Φ := h
    exact cOp_swap h1 h2 hsj h3 h4 h5 h6 (wpN_anti _) hw (cOp_mono (fun a w Φ hw h => wpN_pull hsj xs a w Φ hw (fun y hy => hx y (by simp [hy])) h) hw h')

/-! The orders. -/
def deepB (md : Region.Mode) (ops : Array Oper) : Nat → Nat → Nat → Bool
  | 0, _, _ => false
  | f + 1, j, x => Region.waitsFor md ops j x || (List.range j).any fun y => decide (x < y) && (Region.waitsFor md ops j y && deepB md ops f y x)
/-- Each operation waits for earlier ones alone; two that are not apart, two calls, and a call behind a new variable, wait. -/
def headB (md : Region.Mode) (ops : Array Oper) (n : Nat) : Bool :=
  Region.noSelect ops && (List.range ops.size).all fun j => match ops[j]? with
    | none => true
    | some oj => (oj.after.all fun e => !Region.binds md e || decide (e.on < j)) &&
      (decide (n ≤ j) || (List.range j).all fun x => deepB md ops j j x || match ops[x]? with
        | none => true
        | some ox => ox.apart ops oj && !(isCallB ox && isCallB oj) && !(isAllocB ox && isCallB oj) && !isStoreB ox && !(isStoreB oj && (isCallB ox || isAllocB ox)))

theorem deep_listed {listed : Array Bool} (hcl : ∀ j oj, ops[j]? = some oj → listed.getD j false = true → ∀ e ∈ oj.after, Region.binds md e = true → listed.getD e.on false = true) :
    ∀ (f j x : Nat), deepB md ops f j x = true → (∀ oj, ops[j]? = some oj → ∀ e ∈ oj.after, Region.binds md e = true → listed.getD e.on false = true) → listed.getD x false = true
  | 0, _, _, h, _ => by cases h
  | f + 1, j, x, h, hj => by
    unfold deepB at h
    rw [Bool.or_eq_true] at h
    rcases h with h | h
    · obtain ⟨oj, ho, e, he, hb, hon⟩ := Region.waitsFor_spec h
      rw [← hon]; exact hj oj ho e he hb
    · obtain ⟨y, _, hy⟩ := List.any_eq_true.1 h
      simp only [Bool.and_eq_true] at hy
      obtain ⟨_, h1, h2⟩ := hy
      obtain ⟨oj, ho, e, he, hb, hon⟩ := Region.waitsFor_spec h1
      have hl : listed.getD y false = true := by rw [← hon]; exact hj oj ho e he hb
      exact deep_listed hcl f y x h2 (fun oy hoy e he hb => hcl y oy hoy hl e he hb)

theorem headB_before {n j : Nat} {oj : Oper} (h : headB md ops n = true) (hj : ops[j]? = some oj) : ∀ e ∈ oj.after, Region.binds md e = true → e.on < j := by
  intro e he hb
  unfold headB at h
  rw [Bool.and_eq_true] at h
  have h1 := List.all_eq_true.1 h.2 j (List.mem_range.2 (Array.getElem?_eq_some_iff.1 hj).1)
  simp only [hj, Bool.and_eq_true] at h1
  have h2 := Array.all_eq_true_iff_forall_mem.1 h1.1 e he
  simpa [hb] using h2

theorem headB_swap {n j x : Nat} {oj ox : Oper} (h : headB md ops n = true) (hj : ops[j]? = some oj) (hx : ops[x]? = some ox) (hjn : j < n) (hxj : x < j) :
    deepB md ops j j x = true ∨ (ox.apart ops oj = true ∧ ¬ (isCallB ox = true ∧ isCallB oj = true) ∧ ¬ (isAllocB ox = true ∧ isCallB oj = true) ∧ ¬ isStoreB ox = true ∧ ¬ (isStoreB oj = true ∧ (isCallB ox = true ∨ isAllocB ox = true))) := by
  unfold headB at h
  rw [Bool.and_eq_true] at h
  have h1 := List.all_eq_true.1 h.2 j (List.mem_range.2 (Array.getElem?_eq_some_iff.1 hj).1)
  simp only [hj, Bool.and_eq_true, Bool.or_eq_true, decide_eq_true_eq] at h1
  have h2 := h1.2.resolve_left (by omega)
  have h3 := List.all_eq_true.1 h2 x (List.mem_range.2 hxj)
  simp only [hx, Bool.or_eq_true, Bool.and_eq_true, Bool.not_eq_true'] at h3
  rcases h3 with h3 | h3
  · exact .inl h3
  · obtain ⟨⟨⟨⟨h4, h5⟩, h6⟩, h7⟩, h8⟩ := h3
    refine .inr ⟨h4, fun hh => ?_, fun hh => ?_, fun hh => ?_, fun hh => ?_⟩
    · rw [hh.1, hh.2] at h5; cases h5
    · rw [hh.1, hh.2] at h6; cases h6
    · rw [hh] at h7; cases h7
    · rw [hh.1] at h8
      rcases hh.2 with h9 | h9 <;> rw [h9] at h8 <;> simp at h8

/-- The operations of the head that have not come up. -/
def remI (listed : Array Bool) (n : Nat) : List Nat := (List.range n).filter fun i => !(listed.getD i true)
def remL (ops : Array Oper) (listed : Array Bool) (n : Nat) : List Oper := (remI listed n).filterMap fun i => ops[i]?

theorem range_split {i n : Nat} (h : i < n) : List.range n = List.range i ++ i :: (List.range (n - (i + 1))).map (fun k => i + 1 + k) := by
  have e : n = i + 1 + (n - (i + 1)) := by omega
  rw [show List.range n = List.range (i + 1 + (n - (i + 1))) from congrArg _ e, List.range_add, List.range_succ]
  simp

theorem rem_split {listed : Array Bool} {n i : Nat} (hi : i < n) (hs : i < listed.size) (hun : listed.getD i true = false) :
    ∃ pre post, remI listed n = pre ++ i :: post ∧ remI (listed.setIfInBounds i true) n = pre ++ post ∧ ∀ x ∈ pre, x < i ∧ listed.getD x true = false := by
  refine ⟨(List.range i).filter (fun k => !(listed.getD k true)), ((List.range (n - (i + 1))).map (fun k => i + 1 + k)).filter (fun k => !(listed.getD k true)), ?_, ?_, ?_⟩
  · unfold remI
    rw [range_split hi, List.filter_append, List.filter_cons_of_pos (by rw [hun]; rfl)]
  · unfold remI
    rw [range_split hi, List.filter_append, List.filter_cons_of_neg (by
      rw [getD_in_set hs]; simp)]
    congr 1
    · refine List.filter_congr fun k hk => ?_
      rw [getD_set_ne true (by have := List.mem_range.1 hk; omega)]
    · refine List.filter_congr fun k hk => ?_
      obtain ⟨q, _, rfl⟩ := List.mem_map.1 hk
      rw [getD_set_ne true (by omega)]
  · intro x hx
    obtain ⟨h1, h2⟩ := List.mem_filter.1 hx
    exact ⟨List.mem_range.1 h1, by simpa using h2⟩
where
  getD_in_set {listed : Array Bool} {i : Nat} (hs : i < listed.size) : (listed.setIfInBounds i true).getD i true = true := by simp [hs]

theorem any_of_N {n g : Nat} {L : Act → World → Prop} {Q' : Exit → Act → World → Prop} (hB : headB md ops n = true) (hn : n ≤ ops.size)
    (hT : ∀ listed, HeadInv md ops n listed → (∃ i, i < n ∧ listed.getD i true = false) → ∀ j ∈ Region.ready md ops listed, j < n)
    (hL : ∀ listed a w, HeadInv md ops n listed → remI listed n = [] → L a w → wpAny P md ops Q' g listed a w) :
    ∀ (f : Nat) (listed : Array Bool) (a : Act) (w : World) (Φ : World → Prop), HeadInv md ops n listed → (remI listed n).length = f → Cls w0 S w → Φ w → (∀ w w', Φ w → Below w.heap.size w w' → Φ w') →
      wpN P ops w0 S Zs L (remL ops listed n) a w Φ → wpAny P md ops Q' (f + g) listed a w
  | 0, listed, a, w, Φ, inv, hlen, _, hΦ, _, h => by
    have he : remI listed n = [] := List.eq_nil_of_length_eq_zero hlen
    rw [Nat.zero_add]
    unfold remL at h
    rw [he] at h
    exact hL _ _ _ inv he (h w (Below.refl _ _) hΦ)
  | f + 1, listed, a, w, Φ, inv, hlen, hw, hΦ, hst, h => by
    have hsel : ∀ (j : Nat) (o : Oper) cs b, ops[j]? = some o → o.op ≠ .select cs b := by
      unfold headB at hB
      rw [Bool.and_eq_true] at hB
      exact Region.noSelect_spec hB.1
    have hex : ∃ i, i < n ∧ listed.getD i true = false := by
      cases hr : remI listed n with
      | nil => rw [hr] at hlen; cases hlen
      | cons i r =>
        have hm : i ∈ remI listed n := by rw [hr]; simp
        obtain ⟨h1, h2⟩ := List.mem_filter.1 hm
        exact ⟨i, List.mem_range.1 h1, by simpa using h2⟩
    rw [show f + 1 + g = (f + g) + 1 by omega]
    refine ⟨fun h0 => ?_, fun i hi => ?_⟩
    · exfalso
      obtain ⟨i, hin, hun⟩ := hex
      have key : ∀ d i, i ≤ d → i < n → listed.getD i true = false → ∃ k, k ∈ Region.ready md ops listed := by
        intro d
        induction d with
        | zero =>
          intro i hid hin hun
          obtain rfl : i = 0 := by omega
          obtain ⟨o, ho⟩ : ∃ o, ops[0]? = some o := ⟨_, Array.getElem?_eq_getElem (by omega)⟩
          exact ⟨0, mem_ready.2 ⟨hun, o, ho, fun e he hb => absurd (headB_before hB ho e he hb) (by omega)⟩⟩
        | succ d ih =>
          intro i hid hin hun
          obtain ⟨o, ho⟩ : ∃ o, ops[i]? = some o := ⟨_, Array.getElem?_eq_getElem (by omega)⟩
          by_cases hall : ∀ e ∈ o.after, Region.binds md e = true → listed.getD e.on false = true
          · exact ⟨i, mem_ready.2 ⟨hun, o, ho, hall⟩⟩
          · obtain ⟨e, he⟩ := Classical.not_forall.1 hall
            obtain ⟨hem, he⟩ := Classical.not_forall.1 he
            obtain ⟨heb, he⟩ := Classical.not_forall.1 he
            have hlt := headB_before hB ho e hem heb
            have hf : listed.getD e.on false = false := by simpa using he
            exact ih e.on (by omega) (by omega) (getD_in (by rw [inv.size]; omega) hf)
      obtain ⟨k, hk⟩ := key i i (Nat.le_refl _) hin hun
      rw [h0] at hk
      cases hk
    · have hin := hT _ inv hex i hi
      obtain ⟨hun, oi, hoi, hall⟩ := mem_ready.1 hi
      obtain ⟨pre, post, e1, e2, hpre⟩ := rem_split hin (by rw [inv.size]; omega) hun
      have f1 : remL ops listed n = pre.filterMap (fun k => ops[k]?) ++ oi :: post.filterMap (fun k => ops[k]?) := by
        unfold remL; rw [e1, List.filterMap_append, List.filterMap_cons_some hoi]
      have f2 : remL ops (listed.setIfInBounds i true) n = pre.filterMap (fun k => ops[k]?) ++ post.filterMap (fun k => ops[k]?) := by
        unfold remL; rw [e2, List.filterMap_append]
      rw [f1] at h
      have hp := wpN_pull (fun cs b => hsel i oi cs b hoi) _ _ _ _ hw (fun x hx => by
        obtain ⟨k, hk, hkx⟩ := List.mem_filterMap.1 hx
        obtain ⟨hki, hku⟩ := hpre k hk
        rcases headB_swap hB hoi hkx hin hki with hd | ⟨h1, h2, h3, h4, h5⟩
        · exfalso
          have := deep_listed inv.closed i i k hd (fun oj hoj e he hb => by
            have : oj = oi := Option.some.inj (hoj.symm.trans hoi)
            subst this
            exact hall e he hb)
          rw [getD_both hku] at this
          cases this
        · exact ⟨h1, fun cs b => hsel k x cs b hkx, h2, h3, h4, h5⟩) h
      have inv' : HeadInv md ops n (listed.setIfInBounds i true) := inv.set hi hin
      have hlen' : (remI (listed.setIfInBounds i true) n).length = f := by
        rw [e2]; rw [e1] at hlen
        simp only [List.length_append, List.length_cons] at hlen ⊢
        omega
      have go : ∀ a' w' Φ', Cls w0 S w' → Φ' w' → (∀ w w', Φ' w → Below w.heap.size w w' → Φ' w') → wpN P ops w0 S Zs L (pre.filterMap (fun k => ops[k]?) ++ post.filterMap (fun k => ops[k]?)) a' w' Φ' →
          wpAny P md ops Q' (f + g) (listed.setIfInBounds i true) a' w' := fun a' w' Φ' hw' hΦ' hst' h' =>
        any_of_N hB hn hT hL f _ a' w' Φ' inv' hlen' hw' hΦ' hst' (by rw [f2]; exact h')
      unfold wpOp
      simp only [hoi]
      unfold cOp at hp
      split
      · rename_i hwd
        rw [if_pos hwd] at hp
        refine .inl ?_
        rcases hp with ⟨v, hr, hk⟩ | ⟨hc, fn, args, hr, hk⟩ | ⟨T, hTa, hr, hk⟩ | ⟨hs, hk⟩
        · unfold Oper.wp
          rw [hr w hw]
          exact go _ _ _ hw hΦ hst hk
        · unfold Oper.wp
          rw [hr w hw]
          refine (hk w (Below.refl _ _)).mono fun e w'' ⟨v, he, hb, hk'⟩ => ?_
          subst he
          exact go _ _ _ (below_on hw hb) (hst _ _ hΦ hb) hst hk'
        · unfold Oper.wp
          rw [hr w]
          have hal : Below w.heap.size w (w.alloc (.cells (Zs T) T)) := (Below.refl _ _).alloc (Nat.le_refl _) _
          refine go _ _ _ (below_on hw hal) ⟨hst _ _ hΦ hal, by simp, Blk.new w _ _⟩ (fun u u' hu hb => ⟨hst _ _ hu.1 hb, Nat.lt_of_lt_of_le hu.2.1 hb.size, hu.2.2.later hb⟩) (wpN_later _ _ _ _ _ hal (hk _ hw.size))
        · obtain ⟨w3, q1, q2, q3⟩ := hk w (Below.refl _ _) hΦ
          unfold Oper.wp
          rw [q1]
          exact go _ _ _ q2 trivial (fun _ _ _ _ => trivial) q3
      · rename_i hwd
        rw [if_neg hwd] at hp
        exact go _ _ _ hw hΦ hst hp

theorem rem_start (m : Nat) {n : Nat} (h : n ≤ m) : remI (Array.replicate m false) n = List.range n := by
  unfold remI
  refine List.filter_eq_self.2 fun i hi => ?_
  have := List.mem_range.1 hi
  simp [show i < m by omega]
theorem rem_take {l : List Oper} {n : Nat} (h : n ≤ l.length) : (List.range n).filterMap (fun i => l.toArray[i]?) = l.take n := by
  induction n with
  | zero => rfl
  | succ n ih =>
    rw [List.range_succ, List.filterMap_append, ih (by omega), List.take_add_one]
    simp [show n < l.length by omega]
theorem below_drew1 (w : World) : Below w.heap.size w { w with drawn := w.drawn + 1 } := ⟨rfl, rfl, rfl, Nat.le_refl _, fun _ _ => rfl⟩

/-- THE REGION. -/
theorem wp_chain {id : Nat} {Q : Exit → Act → World → Prop} {a : Act} {w : World} {l : List Oper} (S : List Nat) (Zs : TypeId → Array Value) (hm : P.follows .mixedOrders = true) (hB : headB .any l.toArray l.length = true)
    (h : wpN P l.toArray w S Zs (fun a' w' => Q .normal a' w') l a w (fun _ => True)) : (Code.region id l.toArray true).wp P Q a w := by
  refine wp_region_any hm ?_
  have inv0 : HeadInv .any l.toArray l.length (Array.replicate l.toArray.size false) :=
    ⟨by simp, fun j oj _ hl => (by rw [getD_replicate_false] at hl; cases hl), fun t ht ht' => absurd ht' (by simp; omega)⟩
  have hr : remI (Array.replicate l.toArray.size false) l.length = List.range l.length := rem_start _ (by simp)
  have := any_of_N (P := P) (w0 := w) (S := S) (Zs := Zs) (g := 0) (L := fun a' w' => Q .normal a' w') (Q' := Q) hB (by simp) (fun listed inv _ j hj => by
      obtain ⟨_, o, ho, _⟩ := mem_ready.1 hj
      have := (Array.getElem?_eq_some_iff.1 ho).1
      simpa using this) (fun listed a' w' inv he hL => ⟨by
      refine List.eq_nil_iff_forall_not_mem.2 fun j hj => ?_
      obtain ⟨hu, o, ho, _⟩ := mem_ready.1 hj
      have hjl : j < l.length := by have := (Array.getElem?_eq_some_iff.1 ho).1; simpa using this
      have : j ∈ remI listed l.length := List.mem_filter.2 ⟨List.mem_range.2 hjl, by rw [hu]; rfl⟩
      rw [he] at this; exact absurd this (by simp), hL⟩) l.length _ a { w with drawn := w.drawn + 1 } (fun _ => True) inv0 (by rw [hr]; simp) (Cls.of_below (below_drew1 w)) trivial (fun _ _ _ _ => trivial)
    (by unfold remL; rw [hr, rem_take (Nat.le_refl _), List.take_length]; exact wpN_later _ _ _ _ _ (below_drew1 w) h)
  simpa using this

/-- A step, in the form that the walk's simp takes. -/
theorem n_step {L : Act → World → Prop} {a : Act} {w : World} {Φ : World → Prop} {o : Oper} {rest : List Oper}
    (h : ∀ K : Act → World → Prop, (∀ a w, wpN P ops w0 S Zs L rest a w Φ → K a w) → if Region.wanted o (yielded ops a.tmps) = true then (((∃ v, (∀ x : ExtS w0 S, (execOp a.eval o).run P (extS w0 S x) = .ok (.value v) (extS w0 S x)) ∧ K (a.put o.dst v) w) ∨
      (∃ f args, (∀ x : ExtS w0 S, (execOp a.eval o).run P (extS w0 S x) = .ok (.enter f args) (extS w0 S x)) ∧ isCallB o = true ∧
        ∀ w2, Below w.heap.size w w2 → Calls P f args w2 (fun e w'' => ∃ v, e = .returned v ∧ Below w2.heap.size w2 w'' ∧ K (a.put o.dst v) w'')))) else K (a.put o.dst undef) w) : wpN P ops w0 S Zs L (o :: rest) a w Φ := by
  have h := h _ (fun _ _ h => h)
  show cOp P ops w0 S Zs o _ a w Φ
  unfold cOp
  split
  · rename_i hw
    rw [if_pos hw] at h
    rcases h with ⟨v, hr, hk⟩ | ⟨f, args, hr, hc, hk⟩
    · exact .inl ⟨v, fun w' hw' => hr ⟨w', hw'⟩, hk⟩
    · exact .inr (.inl ⟨hc, f, args, fun w' hw' => hr ⟨w', hw'⟩, hk⟩)
  · rename_i hw
    rw [if_neg hw] at h
    exact h

theorem n_value {L : Act → World → Prop} {a : Act} {w : World} {Φ : World → Prop} {o : Oper} {rest : List Oper} (v : Value) (hg : o.guard = none) (hr : ∀ w', Cls w0 S w' → (execOp a.eval o).run P w' = .ok (.value v) w')
    (h : wpN P ops w0 S Zs L rest (a.put o.dst v) w Φ) : wpN P ops w0 S Zs L (o :: rest) a w Φ := by
  show cOp P ops w0 S Zs o _ a w Φ
  unfold cOp
  rw [if_pos (by simp [Region.wanted, hg])]
  exact .inl ⟨v, hr, h⟩

theorem n_get {L : Act → World → Prop} {a : Act} {w : World} {Φ : World → Prop} {rest : List Oper} {dst : Option Tmp} {T ty t : TypeId} {X : Operand} {pos : String} {after : Array Edge} {g : Nat} {cells : Array Value} {d : TypeDesc} (hg : Blk w0 g cells t) (hgS : g ∉ S)
    (hu : P.underlying T = some d) (hd : (match d with | .struct _ | .array _ _ => true | _ => false) = true) (hi : (P.info? T).map (·.size) = some cells.size) (hx : a.eval X = .pointer (some ⟨g, 0, none⟩))
    (h : wpN P ops w0 S Zs L rest (a.put dst (.agg cells)) w Φ) : wpN P ops w0 S Zs L (⟨dst, .load T X, ty, pos, after, none⟩ :: rest) a w Φ :=
  n_value (.agg cells) rfl (fun w' hw' => by
    have := run_loadVar_row w' g t _ _ _ _ (hw'.blk hg hgS) hu hd hi
    simp only [execOp, hx, Instr.loadAt, Instr.sureAddr]
    simp [this]) h

theorem n_alloc {L : Act → World → Prop} {a : Act} {w : World} {Φ : World → Prop} {rest : List Oper} {dst : Option Tmp} {T ty : TypeId} {pos : String} {after : Array Edge}
    (hr : ∀ w : World, (Instr.alloc T true (.tuple #[])).run P w = .ok (.pointer (some ⟨w.heap.size, 0, none⟩)) (w.alloc (.cells (Zs T) T)))
    (h : ∀ B, w0.heap.size ≤ B → wpN P ops w0 S Zs L rest (a.put dst (.pointer (some ⟨B, 0, none⟩))) w fun w' => Φ w' ∧ B < w'.heap.size ∧ Blk w' B (Zs T) T) : wpN P ops w0 S Zs L (⟨dst, .alloc T, ty, pos, after, none⟩ :: rest) a w Φ := by
  show cOp P ops w0 S Zs _ _ a w Φ
  unfold cOp
  rw [if_pos (by simp [Region.wanted])]
  exact .inr (.inr (.inl ⟨T, rfl, fun w' => by simp [execOp, hr], h⟩))

/-- A variable of the region's own is stored whole. -/
theorem n_put {L : Act → World → Prop} {a : Act} {w : World} {Φ : World → Prop} {rest : List Oper} {dst : Option Tmp} {T ty t : TypeId} {X Y : Operand} {pos : String} {after : Array Edge} {g : Nat} {cells old : Array Value}
    (hb : ∀ w2, Below w.heap.size w w2 → Φ w2 → Blk w2 g old t) (hg : w0.heap.size ≤ g ∨ g ∈ S) (hw : Cls w0 S w) (hi : (P.info? T).map (·.size) = some cells.size) (ho : old.size = cells.size) (h1 : cells.all (·.oneCell') = true)
    (hx : a.eval X = .pointer (some ⟨g, 0, none⟩)) (hy : a.eval Y = .agg cells)
    (h : ∀ w2 w3, Below w.heap.size w w2 → Φ w2 → Blk w3 g cells t → w2.grownBy w3 (some g) → Cls w0 S w3 → wpN P ops w0 S Zs L rest (a.put dst undef) w3 fun _ => True) : wpN P ops w0 S Zs L (⟨dst, .store T X Y, ty, pos, after, none⟩ :: rest) a w Φ := by
  show cOp P ops w0 S Zs _ _ a w Φ
  unfold cOp
  rw [if_pos (by simp [Region.wanted])]
  refine .inr (.inr (.inr ⟨rfl, fun w2 hb2 hΦ => ?_⟩))
  have hgr : w2.grownBy (w2.setRow g cells) (some g) := ⟨rfl, rfl, rfl, by simp, fun k _ hk => setRow_other w2 g k cells (fun e => hk (by rw [e]))⟩
  have hb3 : Cls w0 S (w2.setRow g cells) := (below_on hw hb2).grown hgr hg
  refine ⟨w2.setRow g cells, ?_, hb3, h w2 _ hb2 hΦ ((hb w2 hb2 hΦ).row_same cells) hgr hb3⟩
  have := run_storeVar_row (P := P) w2 g t T old cells (hb w2 hb2 hΦ) hi ho h1
  simp only [execOp, hx, hy, Instr.storeAt, Instr.sureAddr]
  simp [this]

theorem n_nil {L : Act → World → Prop} {a : Act} {w : World} {Φ : World → Prop} (h : ∀ w2, Below w.heap.size w w2 → Φ w2 → L a w2) : wpN P ops w0 S Zs L [] a w Φ := h
end
attribute [irreducible] wpN
end Go.Proofs.Ytonmdkhfongmhaa
