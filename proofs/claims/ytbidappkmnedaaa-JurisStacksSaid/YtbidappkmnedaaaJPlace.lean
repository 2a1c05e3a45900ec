/- juris: slices.IndexFunc, place, Find, kind -/
import Derived.Test.YtbidappkmnedaaaJDef
namespace Go.Proofs.Ytbidappkmnedaaa
open Go.RowKit
set_option maxRecDepth 100000 in
theorem IndexFunc_any (ao : Option Addr) (n cap : Nat) (L : List Jur) (x : Int) (B : Nat) (w : World) (h : IsJurs w ao n cap L) (hB : w.cell? ⟨B, 0, none⟩ = some (.int .i64 x)) :
    Calls Try.prog 44 #[.slice ao n cap, .func (.func 45) #[] #[.pointer (some ⟨B, 0, none⟩)]] w fun e w' => e = .returned (.int .i64 (placeJ L x)) ∧ Grew w w' := by
  obtain ⟨hl, hnc, hcm, hc, h0⟩ := h
  unfold maxLen at hcm
  have HL := Lib.hid hl
  have HC := Lib.hid hc
  have HB := Lib.hid hB
  clear hl hc hB
  go_enter Try.func44, Try.ntmps44
  go_wp2
  go_loopw [8] (fun i wr => ∃ k : Nat, k ≤ n ∧ i = .int .i64 k ∧ Hid (∀ i, i < k → (L.getD i j0).id ≠ x) ∧ Hid (Grew w wr)) (fun i _ => n - (intOf i).toNat)
  case atStart => exact ⟨0, by omega, rfl, fun i hi => absurd hi (by omega), Grew.refl _⟩
  case round =>
    obtain ⟨k, hk, rfl, hall, hbl⟩ := hrel
    by_cases hlt : k < n
    · have hi0 : (0 : Int) ≤ (k : Int) := by omega
      have hi5 : (k : Int) < (n : Int) := by omega
      obtain ⟨b, off, rfl, hcs⟩ := HC.out (by omega)
      have hcs2 := hcs.later hbl.out.1 (hcs.lt (by omega))
      obtain ⟨c, hc⟩ : ∃ c, c = L.getD k j0 := ⟨_, rfl⟩
      have hk0 := hcs2 k hlt
      rw [← hc] at hk0
      have e0 : wr.cell? ⟨b, off + k * 5, none⟩ = some (.int .i64 c.id) := hk0 0 (by omega)
      have e1 : wr.cell? ⟨b, off + k * 5 + 1, none⟩ = some (.int .i64 c.ki) := hk0 1 (by omega)
      have e2 : wr.cell? ⟨b, off + k * 5 + 2, none⟩ = some (.int .i64 c.pa) := hk0 2 (by omega)
      have e3 : wr.cell? ⟨b, off + k * 5 + 3, none⟩ = some (.int .i64 c.fi) := hk0 3 (by omega)
      have e4 : wr.cell? ⟨b, off + k * 5 + 4, none⟩ = some (.slice c.ra c.rn c.rc) := hk0 4 (by omega)
      have HCE := Lib.hid hc
      obtain ⟨p, hp⟩ : ∃ p, p = decide (c.id = x) := ⟨_, rfl⟩
      have hcall : Calls Try.prog 45 #[.agg #[.int .i64 c.id, .int .i64 c.ki, .int .i64 c.pa, .int .i64 c.fi, .slice c.ra c.rn c.rc], .pointer (some ⟨B, 0, none⟩)] wr fun e w2 => e = .returned (.bool p) ∧ Grew wr w2 := by
        rw [hp]; exact one_any c x B wr (hbl.out.cell HB.out)
      have HP := Lib.hid hp
      have HX := Lib.hid hcall
      clear hcs hcs2 hk0 hc hp hcall
      cases p with
      | true =>
        go_wp2_with fail
        refine HX.out.mono ?_
        rintro e w1 ⟨rfl, hb1⟩
        go_wp2_with fail
        go_ret
        refine ⟨?_, hbl.out.trans hb1⟩
        have := HP.out
        rw [HCE.out] at this
        unfold placeJ
        rw [atJ_some HL.out hlt (of_decide_eq_true this.symm) hall.out]
        rfl
      | false =>
        go_wp2_with fail
        refine HX.out.mono ?_
        rintro e w1 ⟨rfl, hb1⟩
        go_wp2_with fail
        go_roundw
        case rel =>
          refine ⟨k + 1, by omega, by go_num, fun i hi => ?_, hbl.out.trans hb1⟩
          by_cases hik : i < k
          · exact hall.out i hik
          · obtain rfl : i = k := by omega
            rw [← HCE.out]; exact of_decide_eq_false HP.out.symm
        case measure => simp [intOf]; omega
    · obtain rfl : k = n := by omega
      go_wp2
      go_ret
      refine ⟨?_, hbl.out⟩
      unfold placeJ
      rw [atJ_none HL.out hall.out]
      rfl
theorem place_any (ao : Option Addr) (n cap : Nat) (L : List Jur) (x : Int) (w : World) (h : IsJurs w ao n cap L) :
    Calls Try.prog 33 #[.slice ao n cap, .int .i64 x] w fun e w' => e = .returned (.int .i64 (placeJ L x)) ∧ Grew w w' := by
  have HX := Lib.hid (IndexFunc_any ao n cap L x w.heap.size (w.alloc (Obj.cells #[.int .i64 x] 3)) (h.grew ((Grew.refl w).alloc _)) (alloc_cell _ _ _))
  clear h
  generalize placeJ L x = r at HX ⊢
  go_enter Try.func33, Try.ntmps33
  go_wp2_with fail
  refine HX.out.mono ?_
  rintro e w1 ⟨rfl, hb1⟩
  go_wp2_with fail
  go_ret
  exact ⟨rfl, ((Grew.refl w).alloc _).trans hb1⟩
def findP (L : List Jur) (x : Int) : Jur × Bool := match atJ L x with
  | none => (j0, false)
  | some i => (L.getD i j0, true)
set_option maxRecDepth 100000 in
theorem Find_any (ao : Option Addr) (n cap : Nat) (L : List Jur) (x : Int) (w : World) (h : IsJurs w ao n cap L) :
    Calls Try.prog 13 #[.slice ao n cap, .int .i64 x] w fun e w' => e = .returned (.tuple #[(findP L x).1.val, .bool (findP L x).2]) ∧ Grew w w' := by
  have HX := Lib.hid (place_any ao n cap L x (w.alloc (Obj.cells j0.row 33)) (h.grew ((Grew.refl w).alloc _)))
  have HS := Lib.hid (h.grew ((Grew.refl w).alloc (Obj.cells j0.row 33)))
  obtain ⟨f, hf⟩ : ∃ f, f = findP L x := ⟨_, rfl⟩
  rw [← hf]
  unfold findP at hf
  have hcm := h.2.2.1
  have hnc := h.2.1
  unfold maxLen at hcm
  cases ha : atJ L x with
  | none =>
    rw [ha] at hf
    subst hf
    have hp : placeJ L x = -1 := by unfold placeJ; rw [ha]
    rw [hp] at HX
    clear h ha hp
    go_enter Try.func13, Try.ntmps13
    go_wp2_with fail
    refine HX.out.mono ?_
    rintro e w1 ⟨rfl, hb1⟩
    obtain ⟨c0, c1, c2, c3, c4, f0, f1, f2, f3, f4⟩ := jur_box j0 hb1.heap_new
    have HP := Lib.hid hb1.heap_new
    unfold j0 at c0 c1 c2 c3 c4
    go_wp2_with fail
    refine bodyPost_ret (results_jur rfl j0 rfl ?_) rfl ?_
    · exact cells_row j0 (heap_put HP.out j0)
    · exact ⟨rfl, grew_put (Nat.le_refl _) j0.row.toList 0 _ (((Grew.refl w).alloc _).trans hb1)⟩
  | some k =>
    rw [ha] at hf
    have hp : placeJ L x = (k : Int) := by unfold placeJ; rw [ha]
    rw [hp] at HX
    have hkl := (atJ_lt ha).1
    rw [h.1] at hkl
    obtain ⟨c, hc⟩ : ∃ c, c = L.getD k j0 := ⟨_, rfl⟩
    dsimp only at hf
    rw [← hc] at hf
    subst hf
    have HCE := Lib.hid hc
    have hi0 : (0 : Int) ≤ (k : Int) := by omega
    have hi5 : (k : Int) < (n : Int) := by omega
    clear h ha hp hc
    go_enter Try.func13, Try.ntmps13
    go_wp2_with fail
    refine HX.out.mono ?_
    rintro e w1 ⟨rfl, hb1⟩
    obtain ⟨c0, c1, c2, c3, c4, f0, f1, f2, f3, f4⟩ := jur_box j0 hb1.heap_new
    have HP := Lib.hid hb1.heap_new
    unfold j0 at c0 c1 c2 c3 c4
    obtain ⟨b, off, rfl, hcs⟩ := (HS.out.grew hb1).2.2.2.1 (by omega)
    have hk0 := hcs k hkl
    rw [← HCE.out] at hk0
    have e0 : w1.cell? ⟨b, off + k * 5, none⟩ = some (.int .i64 c.id) := hk0 0 (by omega)
    have e1 : w1.cell? ⟨b, off + k * 5 + 1, none⟩ = some (.int .i64 c.ki) := hk0 1 (by omega)
    have e2 : w1.cell? ⟨b, off + k * 5 + 2, none⟩ = some (.int .i64 c.pa) := hk0 2 (by omega)
    have e3 : w1.cell? ⟨b, off + k * 5 + 3, none⟩ = some (.int .i64 c.fi) := hk0 3 (by omega)
    have e4 : w1.cell? ⟨b, off + k * 5 + 4, none⟩ = some (.slice c.ra c.rn c.rc) := hk0 4 (by omega)
    clear hk0 hcs
    go_wp2_with fail
    refine bodyPost_ret (results_jur rfl c rfl ?_) rfl ?_
    · exact cells_row c (heap_put HP.out c)
    · exact ⟨rfl, grew_put (Nat.le_refl _) c.row.toList 0 _ (((Grew.refl w).alloc _).trans hb1)⟩
def kindP (n : Int) : Bool := decide (1 ≤ n) && decide (n ≤ 4)
theorem kind_any (n : Int) (w : World) :
    Calls Try.prog 29 #[.int .i64 n] w fun e w' => e = .returned (.bool (kindP n)) ∧ w = w' := by
  unfold kindP
  by_cases h1 : (1 : Int) ≤ n
  · by_cases h2 : n ≤ 4
    · go_enter Try.func29, Try.ntmps29
      go_wp2
      go_ret
      exact ⟨by first | (simp; done) | (simp; omega), rfl⟩
    · go_enter Try.func29, Try.ntmps29
      go_wp2
      go_ret
      exact ⟨by first | (simp; done) | (simp; omega), rfl⟩
  · go_enter Try.func29, Try.ntmps29
    go_wp2
    go_ret
    exact ⟨by first | (simp; done) | (simp; omega), rfl⟩
end Go.Proofs.Ytbidappkmnedaaa
