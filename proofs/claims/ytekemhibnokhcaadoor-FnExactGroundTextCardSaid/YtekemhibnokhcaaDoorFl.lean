/- Float32 numbers with the NaN's bits forgotten: what the arithmetic of the program gives, as a function; a law of the walk for it. -/
import Derived.WalkKit
import Derived.WalkSpells
import Derived.WalkLawsBesides
import Derived.Deep.Draws
namespace Go.Proofs.YtekemhibnokhcaaDoor
open Go.RowKit

/-- A number: bits, or none for a NaN. -/
abbrev F := Option Nat

def fbOf (f : Ieee.Format) (b : Nat) : F := if (f.read b).isNaN then none else some b
/-- The number of a float32's bits. -/
def fb (b : Nat) : F := fbOf Ieee.single b
/-- The number of a float64's bits. -/
def db (b : Nat) : F := fbOf Ieee.double b

def fadd (x y : F) : F := x.bind fun a => y.bind fun b => Ieee.single.add a b
def fsub (x y : F) : F := x.bind fun a => y.bind fun b => Ieee.single.sub a b
def fmul (x y : F) : F := x.bind fun a => y.bind fun b => Ieee.single.mul a b
def fdiv (x y : F) : F := x.bind fun a => y.bind fun b => Ieee.single.div a b
def ford (x y : F) : Option Ordering := x.bind fun a => y.bind fun b => Ieee.single.order a b
def flt (x y : F) : Bool := ford x y == some .lt
def feq (x y : F) : Bool := ford x y == some .eq
def fle (x y : F) : Bool := flt x y || feq x y
def fgt (x y : F) : Bool := ford x y == some .gt
def fge (x y : F) : Bool := fgt x y || feq x y

theorem signWeight_eq (f : Ieee.Format) : f.infRung + f.binade = f.signWeight := f.infRung_add_binade

theorem read_word (f : Ieee.Format) (neg : Bool) {rung : Nat} (h : rung ≤ f.infRung) : (f.read (f.word neg rung)).isNaN = false := by
  have hlt := f.infRung_lt
  have hm : f.word neg rung % f.signWeight = rung := by
    unfold Ieee.Format.word
    split
    · rw [Nat.add_mod_left]; exact Nat.mod_eq_of_lt (by omega)
    · exact Nat.mod_eq_of_lt (by omega)
  unfold Ieee.Format.read
  simp only [hm]
  split
  · rfl
  · split
    · rfl
    · split
      · rfl
      · omega

theorem nearest_rung (f : Ieee.Format) (neg : Bool) (mag : Nat) (place : Int) : ∃ r, r ≤ f.infRung ∧ f.nearest neg mag place = f.word neg r := by
  unfold Ieee.Format.nearest
  split
  · exact ⟨0, Nat.zero_le _, rfl⟩
  · exact ⟨_, Nat.min_le_right _ _, rfl⟩

theorem write_num (f : Ieee.Format) (d : Ieee.Datum) (h : d.isNaN = false) : (f.read (f.write d)).isNaN = false := by
  cases d with
  | number s m e =>
    obtain ⟨r, hr, he⟩ := nearest_rung f s m e
    show (f.read (f.nearest s m e)).isNaN = false
    rw [he]; exact read_word f s hr
  | infinity s => exact read_word f s (Nat.le_refl _)
  | nan s t => cases h

theorem sum_num {x y d : Ieee.Datum} (h : x.sum y = some d) : d.isNaN = false := by
  unfold Ieee.Datum.sum at h
  split at h
  · cases h
  · cases h
  · split at h <;> cases h; rfl
  · cases h; rfl
  · cases h; rfl
  · cases h; rfl

theorem product_num {x y d : Ieee.Datum} (h : x.product y = some d) : d.isNaN = false := by
  unfold Ieee.Datum.product at h
  split at h
  · cases h
  · cases h
  · cases h; rfl
  · split at h <;> cases h; rfl
  · split at h <;> cases h; rfl
  · cases h; rfl

theorem quotient_num {n : Nat} {x y d : Ieee.Datum} (h : x.quotient n y = some d) : d.isNaN = false := by
  unfold Ieee.Datum.quotient at h
  split at h
  · cases h
  · cases h
  · cases h
  · cases h; rfl
  · cases h; rfl
  · split at h
    · split at h <;> cases h; rfl
    · cases h; rfl

theorem fbOf_write (f : Ieee.Format) {o : Option Ieee.Datum} {r : Nat} (hn : ∀ d, o = some d → d.isNaN = false) (h : o.map f.write = some r) : fbOf f r = some r := by
  cases o with
  | none => cases h
  | some d => cases h; unfold fbOf; rw [write_num f d (hn d rfl)]; rfl

theorem fb_add {x y r : Nat} (h : Ieee.single.add x y = some r) : fb r = some r := fbOf_write _ (fun _ => sum_num) h
theorem fb_sub {x y r : Nat} (h : Ieee.single.sub x y = some r) : fb r = some r := fbOf_write _ (fun _ => sum_num) h
theorem fb_mul {x y r : Nat} (h : Ieee.single.mul x y = some r) : fb r = some r := fbOf_write _ (fun _ => product_num) h
theorem fb_div {x y r : Nat} (h : Ieee.single.div x y = some r) : fb r = some r := fbOf_write _ (fun _ => quotient_num) h

theorem read_nan {f : Ieee.Format} {b : Nat} (h : (f.read b).isNaN = true) : ∃ s t, f.read b = .nan s t := by
  cases hr : f.read b with
  | number s m e => rw [hr] at h; cases h
  | infinity s => rw [hr] at h; cases h
  | nan s t => exact ⟨s, t, rfl⟩

theorem sum_nan_l {x y : Ieee.Datum} (h : x.isNaN = true) : x.sum y = none := by
  cases x <;> first | (cases h; done) | (cases y <;> rfl)
theorem sum_nan_r {x y : Ieee.Datum} (h : y.isNaN = true) : x.sum y = none := by
  cases y <;> first | (cases h; done) | (cases x <;> rfl)
theorem product_nan_l {x y : Ieee.Datum} (h : x.isNaN = true) : x.product y = none := by
  cases x <;> first | (cases h; done) | (cases y <;> rfl)
theorem product_nan_r {x y : Ieee.Datum} (h : y.isNaN = true) : x.product y = none := by
  cases y <;> first | (cases h; done) | (cases x <;> rfl)
theorem quotient_nan_l {n : Nat} {x y : Ieee.Datum} (h : x.isNaN = true) : x.quotient n y = none := by
  cases x <;> first | (cases h; done) | (cases y <;> rfl)
theorem quotient_nan_r {n : Nat} {x y : Ieee.Datum} (h : y.isNaN = true) : x.quotient n y = none := by
  cases y <;> first | (cases h; done) | (cases x <;> rfl)
theorem order_nan_l {x y : Ieee.Datum} (h : x.isNaN = true) : x.order y = none := by
  cases x <;> first | (cases h; done) | (cases y <;> rfl)
theorem order_nan_r {x y : Ieee.Datum} (h : y.isNaN = true) : x.order y = none := by
  cases y <;> first | (cases h; done) | (cases x <;> rfl)
theorem opposite_nan {x : Ieee.Datum} : x.opposite.isNaN = x.isNaN := by cases x <;> rfl

theorem fbOf_cases (f : Ieee.Format) (b : Nat) : (fbOf f b = none ∧ (f.read b).isNaN = true) ∨ (fbOf f b = some b ∧ (f.read b).isNaN = false) := by
  unfold fbOf
  cases h : (f.read b).isNaN
  · exact .inr ⟨rfl, rfl⟩
  · exact .inl ⟨rfl, rfl⟩

/-- What the arithmetic of a format gives depends on the numbers alone. -/
theorem bind_op {α : Type} {f : Ieee.Format} {g : Nat → Nat → Option α} (hl : ∀ x y, (f.read x).isNaN = true → g x y = none) (hr : ∀ x y, (f.read y).isNaN = true → g x y = none) (x y : Nat) :
    ((fbOf f x).bind fun a => (fbOf f y).bind fun b => g a b) = g x y := by
  rcases fbOf_cases f x with ⟨e, h⟩ | ⟨e, h⟩
  · rw [e, hl x y h]; rfl
  · rcases fbOf_cases f y with ⟨e', h'⟩ | ⟨e', h'⟩
    · rw [e, e', hr x y h']; rfl
    · rw [e, e']; rfl

theorem fadd_fb (x y : Nat) : fadd (fb x) (fb y) = Ieee.single.add x y :=
  bind_op (f := Ieee.single) (fun x y h => by unfold Ieee.Format.add; rw [sum_nan_l h]; rfl) (fun x y h => by unfold Ieee.Format.add; rw [sum_nan_r h]; rfl) x y
theorem fsub_fb (x y : Nat) : fsub (fb x) (fb y) = Ieee.single.sub x y :=
  bind_op (f := Ieee.single) (fun x y h => by unfold Ieee.Format.sub; rw [sum_nan_l h]; rfl) (fun x y h => by unfold Ieee.Format.sub; rw [sum_nan_r (by rw [opposite_nan]; exact h)]; rfl) x y
theorem fmul_fb (x y : Nat) : fmul (fb x) (fb y) = Ieee.single.mul x y :=
  bind_op (f := Ieee.single) (fun x y h => by unfold Ieee.Format.mul; rw [product_nan_l h]; rfl) (fun x y h => by unfold Ieee.Format.mul; rw [product_nan_r h]; rfl) x y
theorem fdiv_fb (x y : Nat) : fdiv (fb x) (fb y) = Ieee.single.div x y :=
  bind_op (f := Ieee.single) (fun x y h => by unfold Ieee.Format.div; rw [quotient_nan_l h]; rfl) (fun x y h => by unfold Ieee.Format.div; rw [quotient_nan_r h]; rfl) x y
theorem ford_fb (x y : Nat) : ford (fb x) (fb y) = Ieee.single.order x y :=
  bind_op (f := Ieee.single) (fun x y h => by unfold Ieee.Format.order; exact order_nan_l h) (fun x y h => by unfold Ieee.Format.order; exact order_nan_r h) x y

theorem order32 (x y : Nat) : FloatKind.f32.format.order x y = ford (fb x) (fb y) := (ford_fb x y).symm

/-- The arithmetic operations. -/
def fop (op : BinOp) (x y : F) : F :=
  match op with
  | .add => fadd x y
  | .sub => fsub x y
  | .mul => fmul x y
  | .quo => fdiv x y
  | _ => none

def arith : BinOp → Bool
  | .add | .sub | .mul | .quo => true
  | _ => false

/-- A drawn NaN is none. -/
theorem cut_nan (x y t : Nat) : fb ((Question.nanBits .f32 x y).cut t) = none := by
  have h1 : t % 2 < 2 := Nat.mod_lt _ (by decide)
  have h2 : t / 2 % (2 ^ 23 - 1) < 2 ^ 23 - 1 := Nat.mod_lt _ (by decide)
  have e : (Question.nanBits .f32 x y).cut t = (t % 2) * 2 ^ 31 + 0x7f800000 + 1 + (t / 2) % (2 ^ 23 - 1) := rfl
  rw [e]
  generalize t % 2 = a at *
  generalize t / 2 % (2 ^ 23 - 1) = c at *
  have hm : (a * 2 ^ 31 + 0x7f800000 + 1 + c) % Ieee.single.signWeight = 0x7f800000 + 1 + c := by
    show (a * 2 ^ 31 + 0x7f800000 + 1 + c) % 2147483648 = _
    omega
  have hb : Ieee.single.binade = 8388608 := rfl
  have hi : Ieee.single.infRung = 2139095040 := rfl
  have hs : Ieee.single.signWeight = 2147483648 := rfl
  have hn : (Ieee.single.read (a * 2 ^ 31 + 0x7f800000 + 1 + c)).isNaN = true := by
    unfold Ieee.Format.read
    simp only [hb, hi]
    rw [hm, if_neg (by omega), if_neg (by omega), if_neg (by omega)]
    rfl
  unfold fb fbOf
  rw [hn]
  rfl

section
variable {P : Program} (w : World)

theorem run_arith_some {op : BinOp} {t : TypeId} {x y r : Nat} (ho : arith op = true) (h : fop op (fb x) (fb y) = some r) :
    (binOp op t (.float .f32 x) (.float .f32 y)).run P w = .ok (.float .f32 r) w := by
  refine run_float_arith w op t .f32 x y r ?_
  cases op <;> first | (cases ho; done) | skip
  · exact (fadd_fb x y).symm.trans h
  · exact (fsub_fb x y).symm.trans h
  · exact (fmul_fb x y).symm.trans h
  · exact (fdiv_fb x y).symm.trans h

theorem run_arith_none {op : BinOp} {t : TypeId} {x y : Nat} (ho : arith op = true) (h : fop op (fb x) (fb y) = none) :
    ∃ r, (binOp op t (.float .f32 x) (.float .f32 y)).run P w = .ok (.float .f32 r) (w.drewN 1) ∧ fb r = none := by
  refine ⟨(Question.nanBits .f32 x y).cut (w.tape w.drawn (.nanBits .f32 x y)), ?_, cut_nan _ _ _⟩
  cases op <;> first | (cases ho; done) | skip
  · have e : FloatKind.f32.format.add x y = none := (fadd_fb x y).symm.trans h
    simp [binOp, Op.floatArith, e, choose, Sem.run, Question.forced, World.drewN]
  · have e : FloatKind.f32.format.sub x y = none := (fsub_fb x y).symm.trans h
    simp [binOp, Op.floatArith, e, choose, Sem.run, Question.forced, World.drewN]
  · have e : FloatKind.f32.format.mul x y = none := (fmul_fb x y).symm.trans h
    simp [binOp, Op.floatArith, e, choose, Sem.run, Question.forced, World.drewN]
  · have e : FloatKind.f32.format.div x y = none := (fdiv_fb x y).symm.trans h
    simp [binOp, Op.floatArith, e, choose, Sem.run, Question.forced, World.drewN]

/-- What an arithmetic operation gives: a number as told; the world is as it was, but for draws. -/
theorem run_arith {op : BinOp} {t : TypeId} {x y : Nat} (ho : arith op = true) :
    ∃ r n, (binOp op t (.float .f32 x) (.float .f32 y)).run P w = .ok (.float .f32 r) (w.drewN n) ∧ fb r = fop op (fb x) (fb y) := by
  cases h : fop op (fb x) (fb y) with
  | none => obtain ⟨r, h1, h2⟩ := run_arith_none (P := P) w (t := t) ho h; exact ⟨r, 1, h1, h2⟩
  | some r =>
    refine ⟨r, 0, run_arith_some w ho h, ?_⟩
    cases op <;> first | (cases ho; done) | skip
    · exact fb_add ((fadd_fb x y).symm.trans h)
    · exact fb_sub ((fsub_fb x y).symm.trans h)
    · exact fb_mul ((fmul_fb x y).symm.trans h)
    · exact fb_div ((fdiv_fb x y).symm.trans h)
end

/-- r is the number x. -/
def Is (r : Nat) (x : F) : Prop := fb r = x
theorem Is.out {r : Nat} {x : F} (h : Is r x) : fb r = x := h
theorem Is.rfl {r : Nat} : Is r (fb r) := Eq.refl _

theorem execOp_bin {ρ : Operand → Value} {P : Program} {w : World} {dst : Option Tmp} {op : BinOp} {t t2 ty : TypeId} {X Y : Operand} {pos : String} {after : Array Edge} {g : Option (Nat × Bool)} {x y : Nat} {v : Value} {w' : World}
    (hx : ρ X = .float .f32 x) (hy : ρ Y = .float .f32 y) (h : (binOp op t (.float .f32 x) (.float .f32 y)).run P w = .ok v w') :
    (execOp ρ ⟨dst, .binOp op t X Y t2, ty, pos, after, g⟩).run P w = .ok (.value v) w' := by
  have e : (eqGuard op t X Y (.float .f32 x) (.float .f32 y)).run P w = .ok () w := by
    unfold eqGuard
    cases op <;> rfl
  simp [execOp, hx, hy, Sem.run_bind, e, h]

/-- THE WALK's LAW. -/
theorem wpList_arith {P : Program} {ops : Array Oper} {Q : Exit → Act → World → Prop} {rest : List Oper} {a : Act} {w : World} {dst : Option Tmp} {op : BinOp} {t t2 ty : TypeId} {X Y : Operand} {pos : String} {after : Array Edge}
    (x y : Nat) (ho : arith op = true) (hx : a.eval X = .float .f32 x) (hy : a.eval Y = .float .f32 y)
    (h : ∀ r n, Is r (fop op (fb x) (fb y)) → wpList P ops Q rest (a.put dst (.float .f32 r)) (w.drewN n)) :
    wpList P ops Q (⟨dst, .binOp op t X Y t2, ty, pos, after, none⟩ :: rest) a w := by
  obtain ⟨r, n, h1, h2⟩ := run_arith (P := P) w (t := t) (x := x) (y := y) ho
  refine wpList_plain rfl fun K hK => ?_
  unfold Oper.wp
  rw [execOp_bin hx hy h1]
  exact hK _ _ (h r n h2)

end Go.Proofs.YtekemhibnokhcaaDoor
