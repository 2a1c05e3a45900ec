/- juris: parent -/
import Derived.Test.YtbidappkmnedaaaJPlace
namespace Go.Proofs.Ytbidappkmnedaaa
open Go.RowKit
def parentP (L : List Jur) (j : Jur) : Int :=
  if (j.ki = 1 ∧ j.pa ≠ 0) ∨ ((j.ki = 2 ∨ j.ki = 3) ∧ j.pa = 0) then 9
  else if j.pa = 0 then 0
  else match atJ L j.pa with
    | none => 6
    | some i => if j.ki ≤ (L.getD i j0).ki then 9 else 0
set_option maxRecDepth 100000 in
set_option maxHeartbeats 1000000 in
theorem parent_any (ao : Option Addr) (n cap : Nat) (L : List Jur) (c : Jur) (w : World) (h : IsJurs w ao n cap L) :
    Calls Try.prog 30 #[.slice ao n cap, c.val] w fun e w' => e = .returned (.int .i64 (parentP L c)) ∧ Grew w w' := by
  have HX := Lib.hid (place_any ao n cap L c.pa (w.alloc (Obj.cells c.row 33)) (h.grew ((Grew.refl w).alloc _)))
  have HS := Lib.hid (h.grew ((Grew.refl w).alloc (Obj.cells c.row 33)))
  obtain ⟨r, hr⟩ : ∃ r, r = parentP L c := ⟨_, rfl⟩
  rw [← hr]
  unfold parentP at hr
  have hcm := h.2.2.1
  have hnc := h.2.1
  unfold maxLen at hcm
  have HL := Lib.hid h.1
  clear h
  obtain ⟨x0, x1, x2, x3, x4, x5, x6⟩ := c
  dsimp only at HX HS hr ⊢
  unfold Jur.row at HX HS
  dsimp only at HX HS
  by_cases h2 : x2 = 0
  · by_cases h3 : x1 = 2 ∨ x1 = 3
    · rw [if_pos (.inr ⟨h3, h2⟩)] at hr
      subst hr h2
      unfold Jur.val Jur.row
      dsimp only
      have h1 : (x1 == 1) = false := by simp; omega
      by_cases h4 : x1 = 2
      · subst h4
        go_enter Try.func30, Try.ntmps30
        go_wp2
        go_ret
        exact ⟨rfl, (Grew.refl w).alloc _⟩
      · obtain rfl : x1 = 3 := by omega
        go_enter Try.func30, Try.ntmps30
        go_wp2
        go_ret
        exact ⟨rfl, (Grew.refl w).alloc _⟩
    · rw [if_neg (by omega), if_pos h2] at hr
      subst hr h2
      unfold Jur.val Jur.row
      dsimp only
      have h4 : (x1 == 2) = false := by simp; omega
      have h5 : (x1 == 3) = false := by simp; omega
      by_cases h1 : x1 = 1
      · subst h1
        go_enter Try.func30, Try.ntmps30
        go_wp2
        go_ret
        exact ⟨rfl, (Grew.refl w).alloc _⟩
      · have h1b : (x1 == 1) = false := by simpa using h1
        go_enter Try.func30, Try.ntmps30
        go_wp2
        go_ret
        exact ⟨rfl, (Grew.refl w).alloc _⟩
  · have h2b : (x2 == 0) = false := by simpa using h2
    by_cases h1 : x1 = 1
    · rw [if_pos (.inl ⟨h1, h2⟩)] at hr
      subst hr h1
      unfold Jur.val Jur.row
      dsimp only
      go_enter Try.func30, Try.ntmps30
      go_wp2
      go_ret
      exact ⟨rfl, (Grew.refl w).alloc _⟩
    · rw [if_neg (by omega), if_neg h2] at hr
      have h1b : (x1 == 1) = false := by simpa using h1
      cases ha : atJ L x2 with
      | none =>
        rw [ha] at hr
        dsimp only at hr
        subst hr
        have hp : placeJ L x2 = -1 := by unfold placeJ; rw [ha]
        rw [hp] at HX
        clear ha hp
        unfold Jur.val Jur.row
        dsimp only
        by_cases h4 : x1 = 2
        · subst h4
          go_enter Try.func30, Try.ntmps30
          go_wp2_with fail
          refine HX.out.mono ?_
          rintro e w1 ⟨rfl, hb1⟩
          go_wp2_with fail
          go_ret
          exact ⟨rfl, ((Grew.refl w).alloc _).trans hb1⟩
        · have h4b : (x1 == 2) = false := by simpa using h4
          by_cases h5 : x1 = 3
          · subst h5
            go_enter Try.func30, Try.ntmps30
            go_wp2_with fail
            refine HX.out.mono ?_
            rintro e w1 ⟨rfl, hb1⟩
            go_wp2_with fail
            go_ret
            exact ⟨rfl, ((Grew.refl w).alloc _).trans hb1⟩
          · have h5b : (x1 == 3) = false := by simpa using h5
            go_enter Try.func30, Try.ntmps30
            go_wp2_with fail
            refine HX.out.mono ?_
            rintro e w1 ⟨rfl, hb1⟩
            go_wp2_with fail
            go_ret
            exact ⟨rfl, ((Grew.refl w).alloc _).trans hb1⟩
      | some k =>
        rw [ha] at hr
        dsimp only at hr
        have hp : placeJ L x2 = (k : Int) := by unfold placeJ; rw [ha]
        rw [hp] at HX
        have hkl := (atJ_lt ha).1
        rw [HL.out] at hkl
        obtain ⟨d, hd⟩ : ∃ d, d = L.getD k j0 := ⟨_, rfl⟩
        rw [← hd] at hr
        have HCE := Lib.hid hd
        have hi0 : (0 : Int) ≤ (k : Int) := by omega
        have hi5 : (k : Int) < (n : Int) := by omega
        clear ha hp hd
        unfold Jur.val Jur.row
        dsimp only
        by_cases h4 : x1 = 2
        · subst h4
          by_cases hge : 2 ≤ d.ki
          · rw [if_pos hge] at hr
            subst hr
            go_enter Try.func30, Try.ntmps30
            go_wp2_with fail
            refine HX.out.mono ?_
            rintro e w1 ⟨rfl, hb1⟩
            have c1 : w1.cell? ⟨w.heap.size, 1, none⟩ = some (.int .i64 2) := cell_of_row _ _ _ _ _ _ hb1.heap_new
            obtain ⟨b, off, rfl, hcs⟩ := (HS.out.grew hb1).2.2.2.1 (by omega)
            have hk0 := hcs k hkl
            rw [← HCE.out] at hk0
            have e1 : w1.cell? ⟨b, off + k * 5 + 1, none⟩ = some (.int .i64 d.ki) := hk0 1 (by omega)
            clear hk0 hcs
            go_wp2_with fail
            go_region
            go_wp2_with fail
            go_ret
            exact ⟨rfl, (((Grew.refl w).alloc _).trans hb1).drew⟩
          · rw [if_neg hge] at hr
            subst hr
            go_enter Try.func30, Try.ntmps30
            go_wp2_with fail
            refine HX.out.mono ?_
            rintro e w1 ⟨rfl, hb1⟩
            have c1 : w1.cell? ⟨w.heap.size, 1, none⟩ = some (.int .i64 2) := cell_of_row _ _ _ _ _ _ hb1.heap_new
            obtain ⟨b, off, rfl, hcs⟩ := (HS.out.grew hb1).2.2.2.1 (by omega)
            have hk0 := hcs k hkl
            rw [← HCE.out] at hk0
            have e1 : w1.cell? ⟨b, off + k * 5 + 1, none⟩ = some (.int .i64 d.ki) := hk0 1 (by omega)
            clear hk0 hcs
            go_wp2_with fail
            go_region
            go_wp2_with fail
            go_ret
            exact ⟨rfl, (((Grew.refl w).alloc _).trans hb1).drew⟩
        · have h4b : (x1 == 2) = false := by simpa using h4
          by_cases h5 : x1 = 3
          · subst h5
            by_cases hge : 3 ≤ d.ki
            · rw [if_pos hge] at hr
              subst hr
              go_enter Try.func30, Try.ntmps30
              go_wp2_with fail
              refine HX.out.mono ?_
              rintro e w1 ⟨rfl, hb1⟩
              have c1 : w1.cell? ⟨w.heap.size, 1, none⟩ = some (.int .i64 3) := cell_of_row _ _ _ _ _ _ hb1.heap_new
              obtain ⟨b, off, rfl, hcs⟩ := (HS.out.grew hb1).2.2.2.1 (by omega)
              have hk0 := hcs k hkl
              rw [← HCE.out] at hk0
              have e1 : w1.cell? ⟨b, off + k * 5 + 1, none⟩ = some (.int .i64 d.ki) := hk0 1 (by omega)
              clear hk0 hcs
              go_wp2_with fail
              go_region
              go_wp2_with fail
              go_ret
              exact ⟨rfl, (((Grew.refl w).alloc _).trans hb1).drew⟩
            · rw [if_neg hge] at hr
              subst hr
              go_enter Try.func30, Try.ntmps30
              go_wp2_with fail
              refine HX.out.mono ?_
              rintro e w1 ⟨rfl, hb1⟩
              have c1 : w1.cell? ⟨w.heap.size, 1, none⟩ = some (.int .i64 3) := cell_of_row _ _ _ _ _ _ hb1.heap_new
              obtain ⟨b, off, rfl, hcs⟩ := (HS.out.grew hb1).2.2.2.1 (by omega)
              have hk0 := hcs k hkl
              rw [← HCE.out] at hk0
              have e1 : w1.cell? ⟨b, off + k * 5 + 1, none⟩ = some (.int .i64 d.ki) := hk0 1 (by omega)
              clear hk0 hcs
              go_wp2_with fail
              go_region
              go_wp2_with fail
              go_ret
              exact ⟨rfl, (((Grew.refl w).alloc _).trans hb1).drew⟩
          · have h5b : (x1 == 3) = false := by simpa using h5
            by_cases hge : x1 ≤ d.ki
            · rw [if_pos hge] at hr
              subst hr
              go_enter Try.func30, Try.ntmps30
              go_wp2_with fail
              refine HX.out.mono ?_
              rintro e w1 ⟨rfl, hb1⟩
              have c1 : w1.cell? ⟨w.heap.size, 1, none⟩ = some (.int .i64 x1) := cell_of_row _ _ _ _ _ _ hb1.heap_new
              obtain ⟨b, off, rfl, hcs⟩ := (HS.out.grew hb1).2.2.2.1 (by omega)
              have hk0 := hcs k hkl
              rw [← HCE.out] at hk0
              have e1 : w1.cell? ⟨b, off + k * 5 + 1, none⟩ = some (.int .i64 d.ki) := hk0 1 (by omega)
              clear hk0 hcs
              go_wp2_with fail
              go_region
              go_wp2_with fail
              go_ret
              exact ⟨rfl, (((Grew.refl w).alloc _).trans hb1).drew⟩
            · rw [if_neg hge] at hr
              subst hr
              go_enter Try.func30, Try.ntmps30
              go_wp2_with fail
              refine HX.out.mono ?_
              rintro e w1 ⟨rfl, hb1⟩
              have c1 : w1.cell? ⟨w.heap.size, 1, none⟩ = some (.int .i64 x1) := cell_of_row _ _ _ _ _ _ hb1.heap_new
              obtain ⟨b, off, rfl, hcs⟩ := (HS.out.grew hb1).2.2.2.1 (by omega)
              have hk0 := hcs k hkl
              rw [← HCE.out] at hk0
              have e1 : w1.cell? ⟨b, off + k * 5 + 1, none⟩ = some (.int .i64 d.ki) := hk0 1 (by omega)
              clear hk0 hcs
              go_wp2_with fail
              go_region
              go_wp2_with fail
              go_ret
              exact ⟨rfl, (((Grew.refl w).alloc _).trans hb1).drew⟩
end Go.Proofs.Ytbidappkmnedaaa
