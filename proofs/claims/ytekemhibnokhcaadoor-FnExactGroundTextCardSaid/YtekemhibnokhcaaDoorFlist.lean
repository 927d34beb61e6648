/- Lists of floats; their sum by the program. -/
import Derived.Test.YtekemhibnokhcaaDoorEq
namespace Go.Proofs.YtekemhibnokhcaaDoor
open Go.RowKit

def flts (l : List Nat) : List Value := l.map fun b : Nat => .float .f32 b
theorem flts_snoc (l : List Nat) (b : Nat) : flts (l ++ [b]) = flts l ++ [.float .f32 b] := by simp [flts]
theorem Tryd.info30 : (Tryd.prog.info? 30).map (fun i => (i.zero, i.size, i.bytes)) = some (some (.float .f32 0), 1, 4) := by kernel_rfl

/-- A list of floats that a slice shows. -/
def FListAt (w : World) (v : Value) (l : List Nat) : Prop :=
  ∃ a cap, v = .slice a l.length cap ∧ l.length ≤ cap ∧ ∀ (j c : Nat), l[j]? = some c → ∃ gq, a = some ⟨gq, 0, none⟩ ∧ w.cell? ⟨gq, j, none⟩ = some (.float .f32 c)
theorem flist_of {w : World} {base : Nat} {v : Value} {l : List Nat} (h : w.ownsRow base 30 1 v l.length (flts l)) : FListAt w v l := by
  have h' := h
  obtain ⟨h1, h2 | ⟨g, cap, cur, rfl, hb, hg, hn, _⟩⟩ := h
  · obtain ⟨rfl, h0⟩ := h2
    refine ⟨none, 0, by rw [h0], by omega, fun j c hc => ?_⟩
    have : l = [] := List.eq_nil_of_length_eq_zero h0
    subst this; cases hc
  · refine ⟨_, cap, rfl, hn, fun j c hc => ⟨g, rfl, ?_⟩⟩
    have hj : j < l.length := (List.getElem?_eq_some_iff.1 hc).1
    have := World.ownsRow.cellAt (w := w) (base := base) (e := 30) (size := 1) (g := g) (n := l.length) (cap := cap) (xs := flts l) h' j (by omega)
    rw [this]
    simp [flts, hc]

theorem owns_below {w w' : World} {base : Nat} {T : TypeId} {v : Value} {n : Nat} {xs : List Value} (h : w.ownsRow base T 1 v n xs) (hB : Below w.heap.size w w') : w'.ownsRow base T 1 v n xs := by
  obtain ⟨h1, h2⟩ := h
  refine ⟨h1, h2.imp id fun ⟨g, cap, cur, e, hb, hg, rest⟩ => ⟨g, cap, cur, e, hb, ?_, rest⟩⟩
  exact (hB.block g (Array.getElem?_eq_some_iff.1 hg).1).trans hg

/-- The sum of numbers, 0 of none. -/
def sumB : List Nat → F
  | [] => some 0
  | x :: r => r.foldl (fun a y => fadd a (fb y)) (fb x)

def SumRel (x : Nat) (r : List Nat) (w : World) (v3 v15 : Value) (wr : World) : Prop :=
  ∃ j s : Nat, j ≤ r.length ∧ v15 = .int .i64 j ∧ v3 = .float .f32 s ∧ Is s ((r.take j).foldl (fun a y => fadd a (fb y)) (fb x)) ∧ Below w.heap.size w wr

theorem setCells_blk {b : Nat} {t : TypeId} : ∀ (vs : List Value) (o : Nat) (w : World) (cur : Array Value), Blk w b cur t → ∃ cur', Blk (w.setCells b o vs) b cur' t ∧ cur'.size = cur.size ∧ ∀ q, q < o → cur'[q]? = cur[q]?
  | [], _, _, cur, h => ⟨cur, h, rfl, fun _ _ => rfl⟩
  | v :: r, o, w, cur, h => by
    obtain ⟨c', h1, h2, h3⟩ := setCells_blk r (o + 1) _ _ (h.cell_same o v)
    refine ⟨c', h1, by rw [h2]; simp, fun q hq => ?_⟩
    rw [h3 q (by omega), Array.getElem?_setIfInBounds, if_neg (by omega)]
theorem setCells_grown {b : Nat} : ∀ (vs : List Value) (o : Nat) (w : World), w.grownBy (w.setCells b o vs) (some b)
  | [], _, w => grown_refl w _
  | v :: r, o, w => by
    have h : w.grownBy (w.setCell ⟨b, o, none⟩ v) (some b) := ⟨rfl, rfl, rfl, by simp [World.setCell], fun k _ hk => heap_setCell_other w _ k v (fun e => hk (by rw [e]))⟩
    exact grown_trans h (setCells_grown r (o + 1) _)
end Go.Proofs.YtekemhibnokhcaaDoor
