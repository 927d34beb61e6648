/- An aquifer and a well: whether they are right: the walk. -/
import Derived.Test.YtonmdkhfongmhaaDoorVc
namespace Go.Proofs.YtonmdkhfongmhaaDoor
open Go.RowKit

def placeB (n : Int) : Bool := decide (-100 ≤ n) && decide (n ≤ 100)
def momB (t : Int) : Bool := decide (1 ≤ t) && decide (t ≤ 100000)
def wellB (X Y : Int) (R : F) : Bool := placeB X && placeB Y && plain R
/-- A bool is handed back, and nothing else is touched. -/
def RetB0 (x : Bool) (w : World) (e : Ending) (w' : World) : Prop := e = .returned (.bool x) ∧ w = w'

set_option maxHeartbeats 400000 in
theorem isMoment_any (n : Int) (w : World) : Calls Tryd.prog 22 #[.int .i64 n] w (RetB0 (momB n) w) := by
  go_enter Tryd.func22, Tryd.ntmps22
  go_wp2_with (go_at_call 25; refine (in_any _ _ _ _).mono ?_; rintro e w' ⟨rfl, rfl⟩)
  go_ret
  exact ⟨rfl, rfl⟩

/-- The quotient's word. -/
def SRat (_ : FuncId) (args : Array Value) (v : Value) : Prop :=
  (args = #[.int .i64 1, .int .i64 1024] ∧ v = .float .f32 981467136) ∨ (args = #[.int .i64 1, .int .i64 1048576] ∧ v = .float .f32 897581056)
theorem srat1 {f : FuncId} {v : Value} (h : SRat f #[.int .i64 1, .int .i64 1024] v) : v = .float .f32 981467136 := by
  rcases h with ⟨_, h⟩ | ⟨h, _⟩
  · exact h
  · simp at h
theorem srat2 {f : FuncId} {v : Value} (h : SRat f #[.int .i64 1, .int .i64 1048576] v) : v = .float .f32 897581056 := by
  rcases h with ⟨h, _⟩ | ⟨_, h⟩
  · simp at h
  · exact h

end Go.Proofs.YtonmdkhfongmhaaDoor
