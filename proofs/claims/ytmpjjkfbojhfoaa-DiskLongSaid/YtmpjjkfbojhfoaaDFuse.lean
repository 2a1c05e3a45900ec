/- disk: a file's bytes, in plain words -/
import Derived.Test.YtmpjjkfbojhfoaaDCut
namespace Go.Proofs.Ytmpjjkfbojhfoaa
/-- bytes behind deeds. -/
def runD : List UInt8 → List Deed → List UInt8
  | b, [] => b
  | b, .more x :: D => runD (b ++ x) D
  | b, .cut n :: D => runD (b.take n) D
theorem units_zero : ∀ (D : List Deed) (S : List UInt8), unitsD D = 0 → runD S D = S
  | [], _, _ => rfl
  | .more x :: D, S, h => by
    have h1 : x.length + unitsD D = 0 := by simpa [unitsD, Deed.units] using h
    have hx : x = [] := List.eq_nil_of_length_eq_zero (by omega)
    subst hx
    simp [runD, units_zero D S (by omega)]
  | .cut n :: D, S, h => by
    simp [unitsD, Deed.units] at h
theorem allB_run : ∀ (D : List Deed) (S : List UInt8), allB S D = runD S D
  | [], _ => rfl
  | .more x :: D, S => by
    have hu : unitsD (.more x :: D) = x.length + unitsD D := by simp [unitsD, Deed.units]
    by_cases h : unitsD (.more x :: D) = 0
    · rw [units_zero _ _ h]
      unfold allB
      exact afterZ_stop _ _ _ (by omega)
    · unfold allB
      rw [afterZ_more _ _ _ (by omega), hu]
      have e1 : (min ((x.length + unitsD D : Nat) : Int) (x.length : Int)).toNat = x.length := by omega
      have e2 : ((x.length + unitsD D : Nat) : Int) - (x.length : Int) = (unitsD D : Nat) := by omega
      rw [e1, e2, List.take_of_length_le (Nat.le_refl _)]
      exact allB_run D (S ++ x)
  | .cut n :: D, S => by
    have hu : unitsD (.cut n :: D) = 1 + unitsD D := by simp [unitsD, Deed.units]
    unfold allB
    rw [afterZ_cut _ _ _ (by omega), hu]
    have e2 : ((1 + unitsD D : Nat) : Int) - 1 = (unitsD D : Nat) := by omega
    rw [e2]
    exact allB_run D (S.take n)
theorem runD_append : ∀ (D E : List Deed) (S : List UInt8), runD S (D ++ E) = runD (runD S D) E
  | [], _, _ => rfl
  | .more x :: D, E, S => runD_append D E (S ++ x)
  | .cut n :: D, E, S => runD_append D E (S.take n)
theorem fits_cut : ∀ (D : List Deed) (S : List UInt8) (z : Nat), fitsD S D → z ≤ (runD S D).length → fitsD S (D ++ [.cut z])
  | [], _, _, _, hz => ⟨hz, trivial⟩
  | .more x :: D, S, z, h, hz => fits_cut D (S ++ x) z h hz
  | .cut n :: D, S, z, h, hz => ⟨h.1, fits_cut D (S.take n) z h.2 hz⟩
theorem unitsD_append (D E : List Deed) : unitsD (D ++ E) = unitsD D + unitsD E := by simp [unitsD]
theorem unitsD_laid (D : List Deed) (n : Nat) (B : List UInt8) (h : B.length = n) : unitsD (laid D n B) = unitsD D + n := by
  unfold laid
  split
  · omega
  · rw [unitsD_append]; simp [unitsD, Deed.units, h]
theorem runD_laid (S : List UInt8) (D : List Deed) (n : Nat) (B : List UInt8) (h : B.length = n) : runD S (laid D n B) = runD S D ++ B := by
  unfold laid
  split
  · rw [List.eq_nil_of_length_eq_zero (by omega : B.length = 0), List.append_nil]
  · rw [runD_append]; rfl
theorem laid_length (D : List Deed) (n : Nat) (B : List UInt8) : (laid D n B).length ≤ D.length + 1 := by
  unfold laid
  split <;> simp
theorem sum_units (D : List Deed) : (D.map Deed.units).sum = unitsD D := rfl
end Go.Proofs.Ytmpjjkfbojhfoaa

/- disk: Fuse, Steps -/
namespace Go.Proofs.Ytmpjjkfbojhfoaa
open Go.RowKit
variable {nm : ByteArray}
set_option maxRecDepth 100000 in
theorem Fuse_any (d mb : Nat) (M : List Ent) (z st fu : Int) (out : Bool) (w : World) (hz1 : z ≤ 9223372036854775807) (h : DiskM w st fu out d mb M) :
    Calls Try.prog 24 #[.pointer (some ⟨d, 0, none⟩), .int .i64 z] w fun e w' => (z < 0 ∧ e = .returned (.int .i64 2) ∧ w' = w) ∨ (0 ≤ z ∧ e = .returned (.int .i64 0) ∧ DiskM w' st z out d mb M ∧ w' = w.setCell ⟨d, 2, none⟩ (.int .i64 z)) := by
  obtain ⟨hfu, hmd, hd, c, hfit, hm⟩ := h
  obtain ⟨h0, h1, h2, h3⟩ := hd.cells
  have z2 : w.frozen? ⟨d, 2, none⟩ = false := frozen_of_row _ _ _ _ _ hd
  have HN := Lib.hid (none_any d mb st fu out w hd)
  have HRES := Lib.hid (show DiskM (w.setCell ⟨d, 2, none⟩ (.int .i64 z)) st z out d mb M from ⟨hz1, hmd, heap_setCell_same w d 2 _ _ (.int .i64 z) hd, c, hfit, (Below.heap_setCell _ _ _ _ (by dsimp only; omega)).trans hm⟩)
  clear hd hm h0 h1 h3 hfu hmd hfit
  by_cases hz : z < 0
  · go_enter Try.func24, Try.ntmps24
    go_wp2_with fail
    refine HN.out.mono ?_
    rintro e w' ⟨rfl, rfl⟩
    go_wp2_with fail
    go_ret
    exact .inl ⟨hz, rfl, rfl⟩
  · go_enter Try.func24, Try.ntmps24
    go_wp2_with fail
    refine HN.out.mono ?_
    rintro e w' ⟨rfl, rfl⟩
    go_wp2_with fail
    go_ret
    exact .inr ⟨by omega, rfl, HRES.out, rfl⟩
end Go.Proofs.Ytmpjjkfbojhfoaa
