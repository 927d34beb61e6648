/- Sites that are right; the drawdown at a site: both sides. -/
import Derived.Test.YtonmdkhfongmhaaTok2
namespace Go.Proofs.Ytonmdkhfongmhaa
open Go.RowKit


set_option maxRecDepth 100000 in
set_option maxHeartbeats 1600000 in
theorem ValidSite_any (s : Si) (hs : s.Rng) (w : World) : Calls Try.prog 74 #[.agg s.cells] w (RetB s.ok w) := by
  obtain ⟨⟨x0, x1⟩, ⟨y0, y1⟩, ⟨px0, px1⟩, ⟨py0, py1⟩⟩ := hs
  cases h1 : wellB s.x s.y (fb s.r)
  · have H1 := Lib.hid h1
    have HR : Hid (s.ok = false) := by show _ = _; unfold Si.ok; rw [h1]; rfl
    clear h1
    go_enter Try.func74, Try.ntmps74
    go_wp2_with (with_reducible refine wpList_box rfl ?_)
    intro A wA hA1 hA2 hA3 hA4
    have HB := Lib.hid hA4
    clear hA4
    go_wp2_with ((with_reducible refine wpList_getAt (T := 44) (b := A) (o := 0) (cs := #[.int .i8 s.x, .int .i8 s.y, .float .f32 s.r]) Try.underlying44 ?_ ?_ ?_ ?_ ?_); rfl; exact sizeWell; exact site_row hA3; rfl)
    refine (ValidWell_any s.x s.y s.r wA (by omega) (by omega)).mono ?_
    rw [H1.out]
    rintro e w2 ⟨rfl, hb2⟩
    have HB2 := Lib.hid (below_next HB.out hb2)
    clear hb2 hA3
    go_wp2_with fail
    go_ret
    exact ⟨ret_bool (by rw [HR.out]), HB2.out⟩
  · have H1 := Lib.hid h1
    cases h2 : placeB s.px
    · have H2 := Lib.hid h2
      have HR : Hid (s.ok = false) := by show _ = _; unfold Si.ok; rw [h1, h2]; rfl
      clear h1 h2
      go_enter Try.func74, Try.ntmps74
      go_wp2_with (with_reducible refine wpList_box rfl ?_)
      intro A wA hA1 hA2 hA3 hA4
      have HB := Lib.hid hA4
      go_wp2_with ((with_reducible refine wpList_getAt (T := 44) (b := A) (o := 0) (cs := #[.int .i8 s.x, .int .i8 s.y, .float .f32 s.r]) Try.underlying44 ?_ ?_ ?_ ?_ ?_); rfl; exact sizeWell; exact site_row hA3; rfl)
      refine (ValidWell_any s.x s.y s.r wA (by omega) (by omega)).mono ?_
      rw [H1.out]
      rintro e w2 ⟨rfl, hb2⟩
      have HB2 := Lib.hid (below_next HB.out hb2)
      have c3 : w2.cell? ⟨A, 3, none⟩ = some (.int .i8 s.px) := (hA3.later hb2).at rfl
      clear hb2 hA3 hA4
      go_wp2_with (go_at_call 103; refine (isPlace_any s.px _).mono ?_; rw [H2.out]; rintro e w' ⟨rfl, rfl⟩)
      go_ret
      exact ⟨ret_bool (by rw [HR.out]), HB2.out⟩
    · have H2 := Lib.hid h2
      have HR : Hid (s.ok = placeB s.py) := by show _ = _; unfold Si.ok; rw [h1, h2]; rfl
      clear h1 h2
      go_enter Try.func74, Try.ntmps74
      go_wp2_with (with_reducible refine wpList_box rfl ?_)
      intro A wA hA1 hA2 hA3 hA4
      have HB := Lib.hid hA4
      go_wp2_with ((with_reducible refine wpList_getAt (T := 44) (b := A) (o := 0) (cs := #[.int .i8 s.x, .int .i8 s.y, .float .f32 s.r]) Try.underlying44 ?_ ?_ ?_ ?_ ?_); rfl; exact sizeWell; exact site_row hA3; rfl)
      refine (ValidWell_any s.x s.y s.r wA (by omega) (by omega)).mono ?_
      rw [H1.out]
      rintro e w2 ⟨rfl, hb2⟩
      have HB2 := Lib.hid (below_next HB.out hb2)
      have c3 : w2.cell? ⟨A, 3, none⟩ = some (.int .i8 s.px) := (hA3.later hb2).at rfl
      have c4 : w2.cell? ⟨A, 4, none⟩ = some (.int .i8 s.py) := (hA3.later hb2).at rfl
      clear hb2 hA3 hA4
      go_wp2_with (first | (go_at_call 103; refine (isPlace_any s.px _).mono ?_; rw [H2.out]; rintro e w' ⟨rfl, rfl⟩) | (go_at_call 103; refine (isPlace_any s.py _).mono ?_; rintro e w' ⟨rfl, rfl⟩))
      go_ret
      exact ⟨ret_bool (by rw [HR.out]), HB2.out⟩

set_option maxRecDepth 100000 in
set_option maxHeartbeats 1600000 in
theorem l04Site_any (s : Si) (hs : s.Rng) (w : World) : Calls Try.prog 69 #[.agg s.cells] w (RetB s.ok w) := by
  obtain ⟨⟨x0, x1⟩, ⟨y0, y1⟩, ⟨px0, px1⟩, ⟨py0, py1⟩⟩ := hs
  cases h1 : wellB s.x s.y (fb s.r)
  · have H1 := Lib.hid h1
    have HR : Hid (s.ok = false) := by show _ = _; unfold Si.ok; rw [h1]; rfl
    clear h1
    go_enter Try.func69, Try.ntmps69
    go_wp2_with (with_reducible refine wpList_box rfl ?_)
    intro A wA hA1 hA2 hA3 hA4
    have HB := Lib.hid hA4
    clear hA4
    go_wp2_with ((with_reducible refine wpList_getAt (T := 44) (b := A) (o := 0) (cs := #[.int .i8 s.x, .int .i8 s.y, .float .f32 s.r]) Try.underlying44 ?_ ?_ ?_ ?_ ?_); rfl; exact sizeWell; exact site_row hA3; rfl)
    refine (l03Ok_any s.x s.y s.r wA (by omega) (by omega)).mono ?_
    rw [H1.out]
    rintro e w2 ⟨rfl, hb2⟩
    have HB2 := Lib.hid (below_next HB.out hb2)
    clear hb2 hA3
    go_wp2_with fail
    go_ret
    exact ⟨ret_bool (by rw [HR.out]), HB2.out⟩
  · have H1 := Lib.hid h1
    cases h2 : placeB s.px
    · have H2 := Lib.hid h2
      have HR : Hid (s.ok = false) := by show _ = _; unfold Si.ok; rw [h1, h2]; rfl
      clear h1 h2
      go_enter Try.func69, Try.ntmps69
      go_wp2_with (with_reducible refine wpList_box rfl ?_)
      intro A wA hA1 hA2 hA3 hA4
      have HB := Lib.hid hA4
      go_wp2_with ((with_reducible refine wpList_getAt (T := 44) (b := A) (o := 0) (cs := #[.int .i8 s.x, .int .i8 s.y, .float .f32 s.r]) Try.underlying44 ?_ ?_ ?_ ?_ ?_); rfl; exact sizeWell; exact site_row hA3; rfl)
      refine (l03Ok_any s.x s.y s.r wA (by omega) (by omega)).mono ?_
      rw [H1.out]
      rintro e w2 ⟨rfl, hb2⟩
      have HB2 := Lib.hid (below_next HB.out hb2)
      have c3 : w2.cell? ⟨A, 3, none⟩ = some (.int .i8 s.px) := (hA3.later hb2).at rfl
      clear hb2 hA3 hA4
      go_wp2_with (go_at_call 100; refine (l03Place_any s.px _).mono ?_; rw [H2.out]; rintro e w' ⟨rfl, rfl⟩)
      go_ret
      exact ⟨ret_bool (by rw [HR.out]), HB2.out⟩
    · have H2 := Lib.hid h2
      have HR : Hid (s.ok = placeB s.py) := by show _ = _; unfold Si.ok; rw [h1, h2]; rfl
      clear h1 h2
      go_enter Try.func69, Try.ntmps69
      go_wp2_with (with_reducible refine wpList_box rfl ?_)
      intro A wA hA1 hA2 hA3 hA4
      have HB := Lib.hid hA4
      go_wp2_with ((with_reducible refine wpList_getAt (T := 44) (b := A) (o := 0) (cs := #[.int .i8 s.x, .int .i8 s.y, .float .f32 s.r]) Try.underlying44 ?_ ?_ ?_ ?_ ?_); rfl; exact sizeWell; exact site_row hA3; rfl)
      refine (l03Ok_any s.x s.y s.r wA (by omega) (by omega)).mono ?_
      rw [H1.out]
      rintro e w2 ⟨rfl, hb2⟩
      have HB2 := Lib.hid (below_next HB.out hb2)
      have c3 : w2.cell? ⟨A, 3, none⟩ = some (.int .i8 s.px) := (hA3.later hb2).at rfl
      have c4 : w2.cell? ⟨A, 4, none⟩ = some (.int .i8 s.py) := (hA3.later hb2).at rfl
      clear hb2 hA3 hA4
      go_wp2_with (first | (go_at_call 100; refine (l03Place_any s.px _).mono ?_; rw [H2.out]; rintro e w' ⟨rfl, rfl⟩) | (go_at_call 100; refine (l03Place_any s.py _).mono ?_; rintro e w' ⟨rfl, rfl⟩))
      go_ret
      exact ⟨ret_bool (by rw [HR.out]), HB2.out⟩

/-- The drawdown at a site. -/
def downS (a : Aq) (s : Si) (t : Int) : F := downF (fb a.T) (fb a.S) (fb s.r) (s.px - s.x) (s.py - s.y) t
/-- What a drawdown at a site asks. -/
def SiOk (a : Aq) (s : Si) (t : Int) : Prop := DownOk a.T a.S s.x s.y s.px s.py t

set_option maxRecDepth 100000 in
set_option maxHeartbeats 1600000 in
theorem l04Drawdown_any (a : Aq) (s : Si) (t : Int) (w : World) (h : SiOk a s t) :
    Calls Try.prog 72 #[.agg #[.float .f32 a.T, .float .f32 a.S], .agg s.cells, .int .i64 t] w (RetF (downS a s t) w) := by
  have H := Lib.hid h
  obtain ⟨_, ⟨x0, x1⟩, ⟨y0, y1⟩, ⟨px0, px1⟩, ⟨py0, py1⟩, _⟩ := h
  go_enter Try.func72, Try.ntmps72
  go_wp2_with (with_reducible refine wpList_box rfl ?_)
  intro A wA hA1 hA2 hA3 hA4
  go_wp2_with (with_reducible refine wpList_box rfl ?_)
  intro B wB hB1 hB2 hB3 hB4
  have HA := Lib.hid (hA3.later hB4)
  have HB := Lib.hid (below_next hA4 hB4)
  have c3 : wB.cell? ⟨B, 3, none⟩ = some (.int .i8 s.px) := hB3.at rfl
  have c4 : wB.cell? ⟨B, 4, none⟩ = some (.int .i8 s.py) := hB3.at rfl
  clear hA3 hA4 hB4
  go_wp2_with (first | ((with_reducible refine wpList_get HA.out Try.underlying42 rfl (by kernel_rfl) ?_ ?_); rfl) | ((with_reducible refine wpList_getAt (T := 44) (b := B) (o := 0) (cs := #[.int .i8 s.x, .int .i8 s.y, .float .f32 s.r]) Try.underlying44 ?_ ?_ ?_ ?_ ?_); rfl; exact sizeWell; exact site_row hB3; rfl))
  refine (l03Drawdown_any a.T a.S s.r s.x s.y s.px s.py t wB H.out).mono ?_
  rintro e w2 ⟨q, rfl, hq, hb2⟩
  have HQ := Lib.hid hq
  have HB2 := Lib.hid (below_next HB.out hb2)
  clear hb2 hq hB3
  go_wp2_with fail
  go_ret
  exact ⟨q, rfl, HQ.out, HB2.out⟩
end Go.Proofs.Ytonmdkhfongmhaa