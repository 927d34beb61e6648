/- The law on decay: mixtures lie between both brines; what is reversed twice is as it was. -/
import Derived.Test.YtfcphfdfpjmgiaaLB2
import Derived.Test.YtfcphfdfpjmgiaaLB2
import Derived.Test.YtfcphfdfpjmgiaaLB2
import Derived.Test.YtfcphfdfpjmgiaaLB2
import Derived.Test.YtfcphfdfpjmgiaaA2S
namespace Go.Proofs.Ytfcphfdfpjmgiaa
open Go.RowKit

/-- 'min' of two numbers of which the first is no -0. -/
theorem run_min_num {P : Program} {x y q : Nat} (hx : fb x = some q) (hq : q < 2147483648) (hy : fb y ≠ none) (ts : Array TypeId) (t : TypeId) (w : World) :
    (Builtin.min_ ts t #[.float .f32 x, .float .f32 y]).run P w = .ok (.float .f32 (if flt (fb x) (fb y) then x else y)) w := by
  have hqx : x = q := by
    unfold fb fbOf at hx
    split at hx
    · cases hx
    · cases hx; rfl
  subst hqx
  have hneg : (FloatKind.f32.decode x).neg = false := by
    have hs : Ieee.single.signWeight = 2147483648 := rfl
    have e : (x / 2147483648 % 2 == 1) = false := by rw [Nat.div_eq_of_lt hq]; rfl
    show (Ieee.single.read x).neg = false
    unfold Ieee.Format.read
    simp only [hs, e]
    split
    · rfl
    · split
      · rfl
      · split <;> rfl
  have ho : FloatKind.f32.format.order x y = ford (fb x) (fb y) := order32 x y
  have hno : FloatKind.f32.format.order x y ≠ none := by
    rw [ho]
    obtain ⟨y', hy'⟩ : ∃ y', fb y = some y' := by cases h : fb y with
      | none => exact absurd h hy
      | some y' => exact ⟨y', rfl⟩
    intro hn
    have hn' : (Ieee.single.read x).order (Ieee.single.read y) = none := (ford_fb x y).symm.trans hn
    have nx : ∀ b c, fb b = some c → (Ieee.single.read b).isNaN = false := fun b c h => by
      unfold fb fbOf at h
      split at h
      · cases h
      · rename_i h'; simpa using h'
    rcases order_none hn' with h | h
    · rw [nx x x hx] at h; cases h
    · rw [nx y y' hy'] at h; cases h
  unfold flt
  rw [← ho]
  cases hc : FloatKind.f32.format.order x y with
  | none => exact absurd hc hno
  | some o => cases o <;> simp [Builtin.min_, Builtin.min2, hc, hneg]

theorem RV.neg {x : F} {q : Rat} (h : RV x q) : ∃ z, RV z (-q) := by
  obtain ⟨v, ⟨b, s, m, e, rfl, hd, he, hv⟩, hq2⟩ := h
  refine ⟨_, -v, ⟨Ieee.single.word (!s) (b % 2147483648), !s, m, e, rfl, ?_, he, ?_⟩, by rw [Rat.neg_mul, hq2, Rat.intCast_neg]⟩
  · have hr := num_rung hd
    obtain ⟨m', e', k1, k2, k3, k4⟩ := read_rung b hr
    rw [hd] at k1
    cases k1
    obtain ⟨m2, e2, l1, l2, l3, l4⟩ := read_word_of (!(b / 2147483648 % 2 == 1)) hr
    have : m2 = m ∧ e2 = e := by omega
    obtain ⟨rfl, rfl⟩ := this
    exact l1
  · rw [hv, signed_eq, signed_eq]
    cases s <;> simp
/-- A share of the way from one number to another. -/
theorem mix_step {x y k : F} {p r t : Rat} (hx : RV x p) (hy : RV y r) (hk : RV k t) (p0 : 0 ≤ p) (p1 : p ≤ 10) (r0 : 0 ≤ r) (r1 : r ≤ 10) (t0 : 0 ≤ t) (t1 : t ≤ 1) :
    ∃ m, RV (fadd x (fmul k (fsub y x))) m ∧ 0 ≤ m ∧ m ≤ 21 ∧ (p ≤ r → p - 1 / 2000 ≤ m ∧ m ≤ r + 1 / 2000) ∧ (r ≤ p → r - 1 / 2000 ≤ m ∧ m ≤ p + 1 / 2000) := by
  obtain ⟨z, hz⟩ := hx.neg
  have hu := uQ_big
  obtain ⟨d, hd, dn, d3, d4⟩ := hy.sub hx (by grind) (by grind)
  obtain ⟨n1, n2⟩ := dn 10 (by grind) (by grind)
  have d5 := d3 _ _ hy (by grind)
  have d6 := d4 _ _ hz (by grind)
  have htd : t * d ≤ r ∧ -p ≤ t * d ∧ (0 ≤ d → t * d ≤ d ∧ 0 ≤ t * d) ∧ (d ≤ 0 → d ≤ t * d ∧ t * d ≤ 0) := by
    have e1 : 0 ≤ d → t * d ≤ d ∧ 0 ≤ t * d := fun h => by
      have h1 := Rat.mul_le_mul_of_nonneg_right t1 h
      rw [Rat.one_mul] at h1
      exact ⟨h1, Rat.mul_nonneg t0 h⟩
    have e2 : d ≤ 0 → d ≤ t * d ∧ t * d ≤ 0 := fun h => by
      have h0 : 0 ≤ -d := by grind
      have h1 := Rat.mul_le_mul_of_nonneg_right t1 h0
      have h2 := Rat.mul_nonneg t0 h0
      rw [Rat.one_mul] at h1
      constructor <;> grind
    by_cases h : 0 ≤ d
    · obtain ⟨a, b⟩ := e1 h
      exact ⟨by grind, by grind, e1, e2⟩
    · obtain ⟨a, b⟩ := e2 (by grind)
      exact ⟨by grind, by grind, e1, e2⟩
  obtain ⟨b1, b2, b3, b4⟩ := htd
  obtain ⟨e, he, en, e3, e4⟩ := hk.mul hd (by grind) (by grind)
  obtain ⟨m1, m2⟩ := en 10 (by grind) (by grind)
  have e5 := e3 _ _ hy b1
  have e6 := e4 _ _ hz b2
  obtain ⟨m, hm, mn, m3, m4⟩ := hx.add he (by grind) (by grind)
  obtain ⟨k1, k2⟩ := mn 20 (by grind) (by grind)
  have m5 := m4 _ _ rv_zero (by grind)
  refine ⟨m, hm, m5, by grind, fun h => ?_, fun h => ?_⟩
  · by_cases hd0 : 0 ≤ d
    · obtain ⟨a, b⟩ := b3 hd0
      constructor <;> grind
    · obtain ⟨a, b⟩ := b4 (by grind)
      constructor <;> grind
  · by_cases hd0 : 0 ≤ d
    · obtain ⟨a, b⟩ := b3 hd0
      constructor <;> grind
    · obtain ⟨a, b⟩ := b4 (by grind)
      constructor <;> grind

theorem qb_small : ∀ z : Fin 40, qB z.val < 2147483648 := by decide +kernel
/-! Brines that differ in their salt. -/
theorem updL_in {f d : Nat → F} {l : List Nat} {c : Nat} (h : c ∈ l) : updL f d l c = d c := by
  have key : ∀ (l : List Nat) (f : Nat → F), (c ∈ l → updL f d l c = d c) := by
    refine fun l => snoc_ind (P := fun l => ∀ f : Nat → F, (c ∈ l → updL f d l c = d c)) (fun f h => by cases h) ?_ l
    intro l e ih f h
    rw [updL_snoc]
    unfold upd
    by_cases he : c = e
    · rw [if_pos he, he]
    · rw [if_neg he]
      exact ih f (by rcases List.mem_append.1 h with h1 | h1; exact h1; exact absurd (List.mem_singleton.1 h1) he)
  exact key l f h
structure TwoB (x : Br) (s : Nat → Nat) : Prop where
  a : DrawnB x
  b : DrawnB { x with s := s }
theorem two_salt {x : Br} {s : Nat → Nat} (h : TwoB x s) {k : Nat} (hk : k < 64) : ∃ p r, RV (fb (x.s k)) p ∧ 0 ≤ p ∧ p ≤ 39 / 4 ∧ RV (fb (s k)) r ∧ 0 ≤ r ∧ r ≤ 39 / 4 ∧ (hasB x.gr.wide x.gr.high k = false → x.s k = 0 ∧ s k = 0) := by
  cases hh : hasB x.gr.wide x.gr.high k
  · have h1 := (h.a.out k (.inr hh)).1
    have h2 := (h.b.out k (.inr hh)).1
    have h2 : s k = 0 := h2
    rw [h1, h2, fb0]
    exact ⟨0, 0, rv_zero, by grind, by grind, rv_zero, by grind, by grind, fun _ => ⟨rfl, rfl⟩⟩
  · obtain ⟨p, p1, p2, p3⟩ := rv_salt (h.a.cell k hk hh).1
    obtain ⟨r, r1, r2, r3⟩ := rv_salt (h.b.cell k hk hh).1
    exact ⟨p, r, p1, p2, p3, r1, r2, r3, fun h => by cases h⟩
theorem cellsTo_mem {W H : Int} {k : Nat} : k ∈ cellsTo W H 64 ↔ k < 64 ∧ hasB W H k = true := cellsTo_iff
theorem mix_sane {x : Br} {s : Nat → Nat} {z : Nat} (h : TwoB x s) (hz : z ≤ 4) : SaneB (mixN x.n (Br.n { x with s := s }) (fb (qB z))) := by
  have hs := h.a.sane
  obtain ⟨hk, t0, t1⟩ := keep_q hz
  refine ⟨hs.ok, fun k hk2 => ?_, fun k hk2 hh => ?_, hs.p1, hs.p0, hs.rm⟩
  · have hm : k ∈ cellsTo x.gr.wide x.gr.high 64 := cellsTo_mem.2 hk2
    obtain ⟨p, r, p1, p2, p3, r1, r2, r3, _⟩ := two_salt h hk2.1
    obtain ⟨m, m1, m2, m3, _, _⟩ := mix_step p1 r1 hk p2 (by grind) r2 (by grind) t0 t1
    refine ⟨m, ?_, m2, by grind⟩
    show RV (updL (fm x.s) (mixS x.n (Br.n { x with s := s }) (fb (qB z))) (cellsTo x.gr.wide x.gr.high 64) k) m
    rw [updL_in hm]
    show RV (fadd (fm x.s k) (fmul _ (fsub (fm s k) (fm x.s k)))) m
    rw [fm_of hk2.1, fm_of hk2.1]
    exact m1
  · have hm : k ∉ cellsTo x.gr.wide x.gr.high 64 := fun h => by have := (cellsTo_mem.1 h).2; have hh : hasB x.gr.wide x.gr.high k = false := hh; rw [hh] at this; cases this
    show updL (fm x.s) _ (cellsTo x.gr.wide x.gr.high 64) k = some 0
    rw [updL_out hm]
    exact hs.s0 k hk2 hh
theorem mixOk_q {z : Nat} (hz : z ≤ 4) : mixOk (fb (qB z)) = true := by
  obtain ⟨hq, q0, q1⟩ := keep_q hz
  have hone : RV (fb 1065353216) 1 := by
    rw [show fb 1065353216 = some 1065353216 by decide +kernel]
    exact RV.of (v := (2 ^ 149 : Nat)) (by decide +kernel) (by decide +kernel)
  unfold mixOk
  rw [fb0, hq.ge rv_zero, hq.le hone, decide_eq_true q0, decide_eq_true q1]; rfl
theorem mix_law {x : Br} {s : Nat → Nat} {z : Nat} (h : TwoB x s) (hz : z ≤ 4) : mixR x.n (Br.n { x with s := s }) (fb (qB z)) = (mixN x.n (Br.n { x with s := s }) (fb (qB z)), 0) := by
  have e1 : x.n.g.wide = (Br.n { x with s := s }).g.wide := rfl
  have e2 : x.n.g.high = (Br.n { x with s := s }).g.high := rfl
  unfold mixR
  rw [if_pos h.a.ok, if_pos h.b.ok, if_pos (mixOk_q hz), if_pos e1, if_pos e2, if_pos (mix_sane h hz).okB]
/-- Each mixture lies between both numbers, nearly. -/
theorem mix_near {x : Br} {s : Nat → Nat} {z : Nat} (h : TwoB x s) (hz : z ≤ 4) {y : Br} (hy : y.n = mixN x.n (Br.n { x with s := s }) (fb (qB z))) {k : Nat} (hk : k < 64) :
    ∃ q, fb (x.s k) = some q ∧ q < 2147483648 ∧ fb (s k) ≠ none ∧ (∀ r, Is r (fsub (fb (if flt (fb (x.s k)) (fb (s k)) then x.s k else s k)) (fb 981668463)) → flt (fb (y.s k)) (fb r) = false) ∧ (∀ r, Is r (fadd (fb (if fgt (fb (s k)) (fb (x.s k)) then s k else x.s k)) (fb 981668463)) → fgt (fb (y.s k)) (fb r) = false) := by
  obtain ⟨hkq, t0, t1⟩ := keep_q hz
  obtain ⟨p, r, p1, p2, p3, r1, r2, r3, r4⟩ := two_salt h hk
  have hval : ∃ m, RV (fb (y.s k)) m ∧ (p ≤ r → p - 1 / 2000 ≤ m ∧ m ≤ r + 1 / 2000) ∧ (r ≤ p → r - 1 / 2000 ≤ m ∧ m ≤ p + 1 / 2000) := by
    have hys : fb (y.s k) = updL (fm x.s) (mixS x.n (Br.n { x with s := s }) (fb (qB z))) (cellsTo x.gr.wide x.gr.high 64) k := by
      have : fm y.s k = (mixN x.n (Br.n { x with s := s }) (fb (qB z))).s k := by rw [← hy]; rfl
      rw [← fm_of (f := y.s) hk, this]; rfl
    rw [hys]
    cases hh : hasB x.gr.wide x.gr.high k
    · have hm : k ∉ cellsTo x.gr.wide x.gr.high 64 := fun h => by have := (cellsTo_mem.1 h).2; rw [hh] at this; cases this
      rw [updL_out hm, fm_of hk]
      obtain ⟨e1, e2⟩ := r4 hh
      rw [e2, fb0] at r1
      rw [e1, fb0] at p1 ⊢
      have := p1.inj r1
      exact ⟨p, p1, fun _ => by constructor <;> grind, fun _ => by constructor <;> grind⟩
    · have hm : k ∈ cellsTo x.gr.wide x.gr.high 64 := cellsTo_mem.2 ⟨hk, hh⟩
      rw [updL_in hm]
      obtain ⟨m, m1, m2, m3, m4, m5⟩ := mix_step p1 r1 hkq p2 (by grind) r2 (by grind) t0 t1
      refine ⟨m, ?_, m4, m5⟩
      show RV (fadd (fm x.s k) (fmul _ (fsub (fm s k) (fm x.s k)))) m
      rw [fm_of hk, fm_of hk]
      exact m1
  obtain ⟨m, hm, m1, m2⟩ := hval
  have hbits : ∃ q, fb (x.s k) = some q ∧ q < 2147483648 := by
    have hfin : ∃ q, fb (x.s k) = some q := by obtain ⟨v, ⟨b, _, _, _, e, _⟩, _⟩ := p1; exact ⟨b, e⟩
    obtain ⟨q, hq⟩ := hfin
    refine ⟨q, hq, ?_⟩
    have hqx := fb_bits hq
    cases hh : hasB x.gr.wide x.gr.high k
    · rw [← hqx, (r4 hh).1]; decide
    · rcases (h.a.cell k hk hh).1 with ⟨z, z1, e⟩ | e
      · rw [← hqx, e]
        exact qb_small ⟨z, by omega⟩
      · rw [← hqx]; omega
  obtain ⟨q, hq1, hq2⟩ := hbits
  obtain ⟨c, hc, c1, c2⟩ : ∃ c, RV (some 981668463) c ∧ 999 / 1000000 ≤ c ∧ c ≤ 1001 / 1000000 :=
    ⟨(8589935 : Rat) / 8589934592, RV.of (v := 8589935 * (2 ^ 116 : Nat)) (by decide +kernel) (by decide +kernel), by decide +kernel, by decide +kernel⟩
  have hfc : fb 981668463 = some 981668463 := by decide +kernel
  have hu := uQ_big
  refine ⟨q, hq1, hq2, by obtain ⟨v, ⟨b, _, _, _, e, _⟩, _⟩ := r1; rw [e]; simp, fun w hw => ?_, fun w hw => ?_⟩
  · have hmin : ∃ u, RV (fb (if flt (fb (x.s k)) (fb (s k)) then x.s k else s k)) u ∧ u - 1 / 2000 ≤ m ∧ 0 ≤ u ∧ u ≤ 10 := by
      rw [p1.lt r1]
      by_cases hpr : p < r
      · rw [decide_eq_true hpr, if_pos rfl]
        exact ⟨p, p1, (m1 (by grind)).1, p2, by grind⟩
      · rw [decide_eq_false hpr, if_neg (by simp)]
        exact ⟨r, r1, (m2 (by grind)).1, r2, by grind⟩
    obtain ⟨u, hu1, hu2, hu3, hu4⟩ := hmin
    obtain ⟨d, hd, dn, _, _⟩ := hu1.sub hc (by grind) (by grind)
    obtain ⟨n1, n2⟩ := dn 11 (by grind) (by grind)
    rw [hw.out, hfc, hm.lt hd]
    exact decide_eq_false (by grind)
  · have hmax : ∃ u, RV (fb (if fgt (fb (s k)) (fb (x.s k)) then s k else x.s k)) u ∧ m ≤ u + 1 / 2000 ∧ 0 ≤ u ∧ u ≤ 10 := by
      rw [r1.gt p1]
      by_cases hpr : p < r
      · rw [decide_eq_true hpr, if_pos rfl]
        exact ⟨r, r1, (m1 (by grind)).2, r2, by grind⟩
      · rw [decide_eq_false hpr, if_neg (by simp)]
        exact ⟨p, p1, (m2 (by grind)).2, p2, by grind⟩
    obtain ⟨u, hu1, hu2, hu3, hu4⟩ := hmax
    obtain ⟨d, hd, dn, _, _⟩ := hu1.add hc (by grind) (by grind)
    obtain ⟨n1, n2⟩ := dn 11 (by grind) (by grind)
    rw [hw.out, hfc, hm.gt hd]
    exact decide_eq_false (by grind)

/-! What decays. -/
theorem dec_zero_all : ∀ z : Fin 5, fmul (some 0) (fb (qB z.val)) = some 0 := by decide +kernel
theorem dec_zero {z : Nat} (hz : z ≤ 4) : ∀ k, decF (some 0) (fb (qB z)) k = some 0
  | 0 => rfl
  | k + 1 => by show fmul (decF _ _ k) _ = _; rw [dec_zero hz k]; exact dec_zero_all ⟨z, by omega⟩
theorem dec_law {x y : Br} {z k : Nat} (h : DrawnB x) (hz : z ≤ 4) (hy : y.n = decN x.n (fb (qB z)) k) {i : Nat} (hi : i < 64) : fb (y.s i) = decF (fb (x.s i)) (fb (qB z)) k := by
  have hys : fb (y.s i) = updL (fm x.s) (fun c => decF (fm x.s c) (fb (qB z)) k) (cellsTo x.gr.wide x.gr.high 64) i := by
    have : fm y.s i = (decN x.n (fb (qB z)) k).s i := by rw [← hy]; rfl
    rw [← fm_of (f := y.s) hi, this]; rfl
  rw [hys]
  cases hh : hasB x.gr.wide x.gr.high i
  · have hm : i ∉ cellsTo x.gr.wide x.gr.high 64 := fun h => by have := (cellsTo_mem.1 h).2; rw [hh] at this; cases this
    rw [updL_out hm, fm_of hi, (h.out i (.inr hh)).1, fb0, dec_zero hz]
  · rw [updL_in (cellsTo_mem.2 ⟨hi, hh⟩), fm_of hi]
theorem salt_keep {x : Br} {z : Nat} (h : DrawnB x) (hz : z ≤ 4) {i : Nat} (hi : i < 64) {t : Int} (t0 : 0 ≤ t) (t1 : t ≤ 1000) : keepB (fb (x.s i)) (fb (qB z)) t = true := by
  have hp : ∃ p, RV (fb (x.s i)) p ∧ 0 ≤ p ∧ p ≤ 99 / 4 := by
    cases hh : hasB x.gr.wide x.gr.high i
    · rw [(h.out i (.inr hh)).1, fb0]; exact ⟨0, rv_zero, by grind, by grind⟩
    · obtain ⟨p, p1, p2, p3⟩ := rv_salt (h.cell i hi hh).1
      exact ⟨p, p1, p2, by grind⟩
  exact keep_ok ⟨hp, z, hz, rfl⟩ t0 t1

/-! What is reversed. -/
/-- A brine whose heads and gains are small. -/
structure RevOk (n : N) : Prop where
  sn : SaneB n
  h1 : ∀ k, IsCell n.g k → ∃ q, RV (n.g.h k) q ∧ -100 ≤ q ∧ q ≤ 100
  g1 : ∀ k, IsCell n.g k → ∃ q, RV (n.g.g k) q ∧ -100 ≤ q ∧ q ≤ 100
theorem RV.opp {x : F} {q : Rat} (h : RV x q) (h1 : -100 ≤ q) (h2 : q ≤ 100) : RV (fsub (some 0) x) (-q) := by
  obtain ⟨r, hr, _, h3, h4⟩ := rv_zero.sub h (by grind) (by grind)
  obtain ⟨z, hz⟩ := h.neg
  have l1 := h3 _ _ hz (by grind)
  have l2 := h4 _ _ hz (by grind)
  have : r = -q := Rat.le_antisymm l1 l2
  rw [← this]; exact hr
theorem fieldTo_upd {W H : Int} {right : F → Bool} {f d : Nat → F} (h : fieldTo W H right f 64 = true) (hd : ∀ k, k < 64 → hasB W H k = true → right (d k) = true) : fieldTo W H right (updL f d (cellsTo W H 64)) 64 = true := by
  unfold fieldTo at h ⊢
  rw [List.all_eq_true] at h ⊢
  intro j hj
  have h1 := h j hj
  have hj := List.mem_range.1 hj
  cases hh : hasB W H j
  · rw [hh] at h1
    have hm : j ∉ cellsTo W H 64 := fun h => by have := (cellsTo_mem.1 h).2; rw [hh] at this; cases this
    rw [updL_out hm]
    exact h1
  · rw [updL_in (cellsTo_mem.2 ⟨hj, hh⟩)]
    exact hd j hj hh
theorem rev_rv {n : N} (h : RevOk n) {k : Nat} (hk : IsCell n.g k) : (∃ q, RV ((revN n).g.h k) (-q) ∧ RV (n.g.h k) q ∧ -100 ≤ q ∧ q ≤ 100) ∧ (∃ q, RV ((revN n).g.g k) (-q) ∧ RV (n.g.g k) q ∧ -100 ≤ q ∧ q ≤ 100) := by
  obtain ⟨q, q1, q2, q3⟩ := h.h1 k hk
  obtain ⟨r, r1, r2, r3⟩ := h.g1 k hk
  have hm : k ∈ cellsTo n.g.wide n.g.high 64 := cellsTo_mem.2 hk
  refine ⟨⟨q, ?_, q1, q2, q3⟩, ⟨r, ?_, r1, r2, r3⟩⟩
  · show RV (updL n.g.h (neg0 n.g.h) (cellsTo n.g.wide n.g.high 64) k) (-q)
    rw [updL_in hm]; exact q1.opp q2 q3
  · show RV (updL n.g.g (neg0 n.g.g) (cellsTo n.g.wide n.g.high 64) k) (-r)
    rw [updL_in hm]; exact r1.opp r2 r3
theorem rev_ok {n : N} (h : RevOk n) : RevOk (revN n) := by
  refine ⟨⟨?_, h.sn.s1, h.sn.s0, h.sn.p1, h.sn.p0, h.sn.rm⟩, fun k hk => ?_, fun k hk => ?_⟩
  · have ho := h.sn.ok
    unfold okI fieldsI at ho ⊢
    simp only [Bool.and_eq_true] at ho ⊢
    obtain ⟨⟨a1, ⟨a2, a3⟩, a4⟩, a5⟩ := ho
    refine ⟨⟨a1, ⟨a2, fieldTo_upd a3 fun k hk hh => ?_⟩, fieldTo_upd a4 fun k hk hh => ?_⟩, a5⟩
    · obtain ⟨r, r1, r2, r3⟩ := h.g1 k ⟨hk, hh⟩
      exact plain_rv (r1.opp r2 r3) (by grind) (by grind)
    · obtain ⟨r, r1, r2, r3⟩ := h.h1 k ⟨hk, hh⟩
      exact plain_rv (r1.opp r2 r3) (by grind) (by grind)
  · obtain ⟨⟨q, q1, _, q2, q3⟩, _⟩ := rev_rv h hk
    exact ⟨-q, q1, by grind, by grind⟩
  · obtain ⟨_, ⟨q, q1, _, q2, q3⟩⟩ := rev_rv h hk
    exact ⟨-q, q1, by grind, by grind⟩
theorem revR_ok {n : N} (h : RevOk n) : revR n = (revN n, 0) := by
  unfold revR
  rw [if_pos h.sn.okB, if_pos (rev_ok h).sn.okB]
theorem DrB.rev {x : Br} (h : DrawnB x) : RevOk x.n := by
  obtain ⟨N⟩ := h.gr.nums
  refine ⟨h.sane, fun k hk => ⟨_, N.rvh hk, ?_, ?_⟩, fun k hk => ⟨_, N.rvg hk, ?_, ?_⟩⟩
  · have e : quart (-400) = -100 := by decide +kernel
    have := quart_le (show -400 ≤ N.h k by have := N.hr k; omega)
    rw [e] at this; exact this
  · have e : quart 400 = 100 := by decide +kernel
    have := quart_le (show N.h k ≤ 400 by have := N.hr k; omega)
    rw [e] at this; exact this
  · have e : quart (-400) = -100 := by decide +kernel
    have := quart_le (show -400 ≤ N.g k by have := N.gr k; omega)
    rw [e] at this; exact this
  · have e : quart 400 = 100 := by decide +kernel
    have := quart_le (show N.g k ≤ 400 by have := N.gr k; omega)
    rw [e] at this; exact this
/-- Twice reversed, a number is as it was. -/
theorem rev_twice {x y z : Br} (h : DrawnB x) (hy : y.n = revN x.n) (hz : z.n = revN y.n) {k : Nat} (hk : k < 64) : feq (fb (z.gr.h k)) (fb (x.gr.h k)) = true ∧ feq (fb (z.gr.g k)) (fb (x.gr.g k)) = true := by
  have e1 : fb (z.gr.h k) = (revN (revN x.n)).g.h k := by
    rw [← hy, ← hz]; exact (fm_of hk).symm
  have e2 : fb (z.gr.g k) = (revN (revN x.n)).g.g k := by
    rw [← hy, ← hz]; exact (fm_of hk).symm
  rw [e1, e2]
  cases hh : hasB x.gr.wide x.gr.high k
  · have hm : k ∉ cellsTo x.gr.wide x.gr.high 64 := fun h => by have := (cellsTo_mem.1 h).2; rw [hh] at this; cases this
    obtain ⟨o1, o2, o3⟩ := h.gr.out k hk hh
    have r1 : (revN (revN x.n)).g.h k = fb (x.gr.h k) := by
      show updL (updL (fm x.gr.h) _ (cellsTo x.gr.wide x.gr.high 64)) _ (cellsTo x.gr.wide x.gr.high 64) k = _
      rw [updL_out hm, updL_out hm]; exact fm_of hk
    have r2 : (revN (revN x.n)).g.g k = fb (x.gr.g k) := by
      show updL (updL (fm x.gr.g) _ (cellsTo x.gr.wide x.gr.high 64)) _ (cellsTo x.gr.wide x.gr.high 64) k = _
      rw [updL_out hm, updL_out hm]; exact fm_of hk
    rw [r1, r2, o2, o3, fb0]
    decide
  · have hr := h.rev
    obtain ⟨⟨q, q1, q2, q3, q4⟩, ⟨r, r1, r2, r3, r4⟩⟩ := rev_rv hr (k := k) ⟨hk, hh⟩
    obtain ⟨⟨q', u1, u2, u3, u4⟩, ⟨r', v1, v2, v3, v4⟩⟩ := rev_rv (rev_ok hr) (k := k) ⟨hk, hh⟩
    have eq1 := q1.inj u2
    have eq2 := r1.inj v2
    have f1 : fb (x.gr.h k) = x.n.g.h k := (fm_of hk).symm
    have f2 : fb (x.gr.g k) = x.n.g.g k := (fm_of hk).symm
    rw [f1, f2, u1.eq q2, v1.eq r2]
    constructor <;> refine decide_eq_true ?_ <;> grind
end Go.Proofs.Ytfcphfdfpjmgiaa
