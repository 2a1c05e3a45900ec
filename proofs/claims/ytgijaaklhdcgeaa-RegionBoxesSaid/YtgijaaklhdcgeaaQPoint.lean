/- point: Valid, Compare, Turn, On, In, Meet -/
import Derived.Test.YtgijaaklhdcgeaaQWide
namespace Go.Proofs.Ytgijaaklhdcgeaa
open Go.RowKit Go.Geo
def ptV (p : Pt) : Value := .agg #[.int .i64 p.x, .int .i64 p.y]
theorem fits_any (n : Int) (w : World) :
    Calls Try.prog 42 #[.int .i64 n] w fun e w' => e = .returned (.bool (fitsC n)) ∧ w = w' := by
  unfold fitsC
  by_cases h1 : -1099511627775 ≤ n
  · by_cases h2 : n ≤ 1099511627775
    · go_enter Try.func42, Try.ntmps42
      go_wp2
      go_ret
      exact ⟨by simp [h1, h2], rfl⟩
    · go_enter Try.func42, Try.ntmps42
      go_wp2
      go_ret
      exact ⟨by simp; omega, rfl⟩
  · go_enter Try.func42, Try.ntmps42
    go_wp2
    go_ret
    exact ⟨by simp; omega, rfl⟩
theorem Valid_any (p : Pt) (w : World) :
    Calls Try.prog 18 #[ptV p] w fun e w' => e = .returned (.bool (validP p)) ∧ Grew w w' := by
  obtain ⟨x, y⟩ := p
  unfold validP ptV
  dsimp only
  have HX := Lib.hid (fits_any x)
  have HY := Lib.hid (fits_any y)
  generalize fitsC x = b at *
  generalize fitsC y = c at *
  cases b
  · go_enter Try.func18, Try.ntmps18
    go_wp2_with fail
    refine (HX.out _).mono ?_
    rintro e w' ⟨rfl, rfl⟩
    go_wp2_with fail
    go_ret
    exact ⟨rfl, (Grew.refl _).alloc _⟩
  · go_enter Try.func18, Try.ntmps18
    go_wp2_with fail
    refine (HX.out _).mono ?_
    rintro e w' ⟨rfl, rfl⟩
    go_wp2_with fail
    refine (HY.out _).mono ?_
    rintro e w' ⟨rfl, rfl⟩
    go_wp2_with fail
    go_ret
    exact ⟨rfl, (Grew.refl _).alloc _⟩
end Go.Proofs.Ytgijaaklhdcgeaa
