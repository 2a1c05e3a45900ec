/- juris: cmp.Compare, cmp.Or, the order of a stack -/
import Derived.Test.YtbidappkmnedaaaJCheck
namespace Go.Proofs.Ytbidappkmnedaaa
open Go.RowKit
/-- cmp.Compare of two ints. -/
def cmpI (a b : Int) : Int := if a < b then -1 else if b < a then 1 else 0
theorem cmp_any (a b : Int) (w : World) :
    Calls Try.prog 39 #[.int .i64 a, .int .i64 b] w fun e w' => e = .returned (.int .i64 (cmpI a b)) ∧ w = w' := by
  unfold cmpI
  by_cases h1 : a < b
  · rw [if_pos h1]
    go_enter Try.func39, Try.ntmps39
    go_wp2
    go_ret
    exact ⟨rfl, rfl⟩
  · rw [if_neg h1]
    by_cases h2 : b < a
    · rw [if_pos h2]
      go_enter Try.func39, Try.ntmps39
      go_wp2
      go_ret
      exact ⟨rfl, rfl⟩
    · rw [if_neg h2]
      go_enter Try.func39, Try.ntmps39
      go_wp2
      go_ret
      exact ⟨rfl, rfl⟩
theorem or_any (g : Nat) (x y : Int) (w : World) (h0 : w.cell? ⟨g, 0, none⟩ = some (.int .i64 x)) (h1 : w.cell? ⟨g, 1, none⟩ = some (.int .i64 y)) :
    Calls Try.prog 38 #[.slice (some ⟨g, 0, none⟩) 2 2] w fun e w' => e = .returned (.int .i64 (if x = 0 then y else x)) ∧ w = w' := by
  by_cases hx : x = 0
  · rw [if_pos hx]
    subst hx
    by_cases hy : y = 0
    · subst hy
      go_enter Try.func38, Try.ntmps38
      go_wp2
      go_loop [8] (fun i => ∃ k : Nat, k ≤ 2 ∧ i = .int .i64 k) (fun i => 2 - (intOf i).toNat)
      case atStart => exact ⟨0, by omega, rfl⟩
      case round =>
        obtain ⟨k, hk, rfl⟩ := hrel
        have hc : k = 0 ∨ k = 1 ∨ k = 2 := by omega
        rcases hc with rfl | rfl | rfl
        · go_wp2
          go_round
          case rel => exact ⟨1, by omega, rfl⟩
          case measure => simp [intOf]
        · go_wp2
          go_round
          case rel => exact ⟨2, by omega, rfl⟩
          case measure => simp [intOf]
        · go_wp2
          go_ret
          exact ⟨rfl, rfl⟩
    · have hyb : (y == 0) = false := by simpa using hy
      have hyn : (y != 0) = true := by simpa using hy
      clear hy
      go_enter Try.func38, Try.ntmps38
      go_wp2
      go_loop [8] (fun i => ∃ k : Nat, k ≤ 1 ∧ i = .int .i64 k) (fun i => 2 - (intOf i).toNat)
      case atStart => exact ⟨0, by omega, rfl⟩
      case round =>
        obtain ⟨k, hk, rfl⟩ := hrel
        have hc : k = 0 ∨ k = 1 := by omega
        rcases hc with rfl | rfl
        · go_wp2
          go_round
          case rel => exact ⟨1, by omega, rfl⟩
          case measure => simp [intOf]
        · go_wp2
          go_ret
          exact ⟨rfl, rfl⟩
  · rw [if_neg hx]
    have hxb : (x == 0) = false := by simpa using hx
    have hxn : (x != 0) = true := by simpa using hx
    clear hx
    go_enter Try.func38, Try.ntmps38
    go_wp2
    go_loop [8] (fun i => ∃ k : Nat, k ≤ 0 ∧ i = .int .i64 k) (fun i => 2 - (intOf i).toNat)
    case atStart => exact ⟨0, by omega, rfl⟩
    case round =>
      obtain ⟨k, hk, rfl⟩ := hrel
      obtain rfl : k = 0 := by omega
      go_wp2
      go_ret
      exact ⟨rfl, rfl⟩
/-- the kind of a number's jurisdiction. -/
def kiOf (L : List Jur) (x : Int) : Int := match atJ L x with
  | none => 0
  | some i => (L.getD i j0).ki
/-- the order of a stack. -/
def ordJ (L : List Jur) (a b : Int) : Int := if cmpI (kiOf L a) (kiOf L b) = 0 then cmpI a b else cmpI (kiOf L a) (kiOf L b)
theorem kiOf_some {L : List Jur} {x : Int} {p : Nat} (h : atJ L x = some p) : kiOf L x = (L.getD p j0).ki := by unfold kiOf; rw [h]
theorem ord_step {B b off : Nat} {u v : Value} {p q : Nat} {w0 w1 w2 : World} (hg : Grew w1 w2) (h0 : w1.cell? ⟨B, 0, none⟩ = some u) (h1 : w1.cell? ⟨b, off + p * 5 + 1, none⟩ = some v) {v2 : Value} (h2 : w1.cell? ⟨b, off + q * 5 + 1, none⟩ = some v2) (h3 : Grew w0 w1) :
    w2.cell? ⟨B, 0, none⟩ = some u ∧ w2.cell? ⟨b, off + p * 5 + 1, none⟩ = some v ∧ w2.cell? ⟨b, off + q * 5 + 1, none⟩ = some v2 ∧ Grew w0 w2 := ⟨hg.cell h0, hg.cell h1, hg.cell h2, h3.trans hg⟩
set_option maxRecDepth 100000 in
theorem ord_any (ao : Option Addr) (n cap : Nat) (L : List Jur) (B : Nat) (x y : Int) (w : World) (h : IsJurs w ao n cap L) (hB : w.cell? ⟨B, 0, none⟩ = some (.slice ao n cap)) (hx : atJ L x ≠ none) (hy : atJ L y ≠ none) :
    Calls Try.prog 37 #[.int .i64 x, .int .i64 y, .pointer (some ⟨B, 0, none⟩)] w fun e w' => e = .returned (.int .i64 (ordJ L x y)) ∧ Grew w w' := by
  cases hp : atJ L x with
  | none => exact absurd hp hx
  | some p =>
  cases hq : atJ L y with
  | none => exact absurd hq hy
  | some q =>
  have hpl := (atJ_lt hp).1
  have hql := (atJ_lt hq).1
  rw [h.1] at hpl hql
  obtain ⟨b, off, rfl, hcs⟩ := h.2.2.2.1 (by omega)
  have hk1 := hcs p hpl 1 (by omega)
  have hk2 := hcs q hql 1 (by omega)
  have hncap := h.2.1
  have hcm := h.2.2.1
  unfold maxLen at hcm
  obtain ⟨k1, hk1e⟩ : ∃ k, k = (L.getD p j0).ki := ⟨_, rfl⟩
  obtain ⟨k2, hk2e⟩ : ∃ k, k = (L.getD q j0).ki := ⟨_, rfl⟩
  have hpx : placeJ L x = (p : Int) := by unfold placeJ; rw [hp]
  have hpy : placeJ L y = (q : Int) := by unfold placeJ; rw [hq]
  obtain ⟨r, hr⟩ : ∃ r, r = ordJ L x y := ⟨_, rfl⟩
  have hrr : r = if cmpI k1 k2 = 0 then cmpI x y else cmpI k1 k2 := by
    rw [hr, hk1e, hk2e]; unfold ordJ; rw [kiOf_some hp, kiOf_some hq]
  rw [← hr]
  have e1 : w.cell? ⟨b, off + p * 5 + 1, none⟩ = some (.int .i64 k1) := by rw [hk1e]; exact hk1
  have e2 : w.cell? ⟨b, off + q * 5 + 1, none⟩ = some (.int .i64 k2) := by rw [hk2e]; exact hk2
  have hpl1 : ∀ w', Grew w w' → Calls Try.prog 33 #[.slice (some ⟨b, off, none⟩) n cap, .int .i64 x] w' fun e w2 => e = .returned (.int .i64 (p : Int)) ∧ Grew w' w2 := fun w' hg => by rw [← hpx]; exact place_any _ n cap L x w' (h.grew hg)
  have hpl2 : ∀ w', Grew w w' → Calls Try.prog 33 #[.slice (some ⟨b, off, none⟩) n cap, .int .i64 y] w' fun e w2 => e = .returned (.int .i64 (q : Int)) ∧ Grew w' w2 := fun w' hg => by rw [← hpy]; exact place_any _ n cap L y w' (h.grew hg)
  have HP1 := Lib.hid hpl1
  have HP2 := Lib.hid hpl2
  have hor : ∀ (g : Nat) (w' : World), w'.cell? ⟨g, 0, none⟩ = some (.int .i64 (cmpI k1 k2)) → w'.cell? ⟨g, 1, none⟩ = some (.int .i64 (cmpI x y)) →
      Calls Try.prog 38 #[.slice (some ⟨g, 0, none⟩) 2 2] w' fun e w2 => e = .returned (.int .i64 r) ∧ w' = w2 := fun g w' h0 h1 => by rw [hrr]; exact or_any g _ _ w' h0 h1
  have HOR := Lib.hid hor
  have hp0 : (0 : Int) ≤ (p : Int) := by omega
  have hp1 : (p : Int) < (n : Int) := by omega
  have hq0 : (0 : Int) ≤ (q : Int) := by omega
  have hq1 : (q : Int) < (n : Int) := by omega
  clear h hcs hk1 hk2 hx hy hp hq hpx hpy hpl1 hpl2 hr hrr hor hk1e hk2e hpl hql
  go_enter Try.func37, Try.ntmps37
  go_wp2_with fail
  go_region_held3 (fun w' => w'.cell? ⟨B, 0, none⟩ = some (.slice (some ⟨b, off, none⟩) n cap) ∧ w'.cell? ⟨b, off + p * 5 + 1, none⟩ = some (.int .i64 k1) ∧ w'.cell? ⟨b, off + q * 5 + 1, none⟩ = some (.int .i64 k2) ∧ Grew w w')
    (first
      | (exact ⟨hB, e1, e2, (Grew.refl _).drew⟩)
      | (go_split_ands; refine ord_step hgr ?_ ?_ ?_ ?_; all_goals assumption)
      | (go_split_ands; refine ord_step ((Grew.refl _).alloc _) ?_ ?_ ?_ ?_; all_goals assumption))
    (first
      | (go_at_call_of 33 (Value.int IntKind.i64 x); go_split_ands; refine (HP1.out _ (by assumption)).mono ?_; rintro e w1 ⟨rfl, hgr⟩)
      | (go_at_call_of 33 (Value.int IntKind.i64 y); go_split_ands; refine (HP2.out _ (by assumption)).mono ?_; rintro e w1 ⟨rfl, hgr⟩)
      | (go_at_call 39; go_split_ands; refine (cmp_any _ _ _).mono ?_; rintro e w1 ⟨rfl, rfl⟩)
      | (go_at_call 38; go_split_ands; refine (HOR.out _ _ (cell_of_row _ _ _ _ _ _ (alloc_new _ _)) (cell_of_row _ _ _ _ _ _ (alloc_new _ _))).mono ?_; rintro e w2 ⟨rfl, rfl⟩))
  go_wp2_with fail
  go_ret
  refine ⟨rfl, ?_⟩
  first | assumption | (go_split_ands; assumption) | (refine Grew.alloc ?_ _; assumption) | (go_split_ands; refine Grew.alloc ?_ _; assumption)
end Go.Proofs.Ytbidappkmnedaaa
