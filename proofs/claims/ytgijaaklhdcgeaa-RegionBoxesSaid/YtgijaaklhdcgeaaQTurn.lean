/- point: valid, Turn, between, On, In, Meet, Compare -/
import Derived.Test.YtgijaaklhdcgeaaQPoint
namespace Go.Proofs.Ytgijaaklhdcgeaa
open Go.RowKit Go.Geo
theorem IsPts.grew {w w' : World} {ao : Option Addr} {n cap : Nat} {P : List Pt} (h : IsPts w ao n cap P) (hb : Grew w w') : IsPts w' ao n cap P := h.later hb.1 (Nat.le_refl _)
theorem IsRings.grew {w w' : World} {ao : Option Addr} {n cap : Nat} {R : List (List Pt)} (h : IsRings w ao n cap R) (hb : Grew w w') : IsRings w' ao n cap R := h.later hb.1 (Nat.le_refl _)
/-- the k-th point of a slice. -/
theorem IsPts.at {w : World} {ao : Option Addr} {n cap : Nat} {P : List Pt} (h : IsPts w ao n cap P) {k : Nat} (hk : k < n) : ∃ b off, ao = some ⟨b, off, none⟩ ∧ w.cell? ⟨b, off + k * 2, none⟩ = some (.int .i64 (P.getD k p0).x) ∧ w.cell? ⟨b, off + k * 2 + 1, none⟩ = some (.int .i64 (P.getD k p0).y) := by
  obtain ⟨b, off, e, hc⟩ := h.2.2.2.1 (by omega)
  exact ⟨b, off, e, hc k hk⟩
theorem all_of {P : List Pt} {n : Nat} (hl : P.length = n) (h : ∀ i, i < n → validP (P.getD i p0) = true) : P.all validP = true := by
  rw [List.all_eq_true]
  intro v hv
  obtain ⟨i, hi, rfl⟩ := List.mem_iff_getElem.1 hv
  have := h i (by omega)
  rwa [getD_lt hi] at this
theorem all_not {P : List Pt} {k : Nat} (hk : k < P.length) (h : validP (P.getD k p0) = false) : P.all validP = false := by
  cases hq : P.all validP with
  | false => rfl
  | true =>
    rw [List.all_eq_true] at hq
    have := hq _ (List.getElem_mem hk)
    rw [getD_lt hk, this] at h
    cases h
set_option maxRecDepth 100000 in
theorem valid_any (ao : Option Addr) (n cap : Nat) (P : List Pt) (w : World) (h : IsPts w ao n cap P) :
    Calls Try.prog 70 #[.slice ao n cap] w fun e w' => e = .returned (.bool (P.all validP)) ∧ Grew w w' := by
  have HI := Lib.hid h
  have hcm := h.2.2.1
  have hnc := h.2.1
  unfold maxLen at hcm
  clear h
  go_enter Try.func70, Try.ntmps70
  go_wp2
  go_loopw [7] (fun i wr => ∃ k : Nat, k ≤ n ∧ i = .int .i64 k ∧ Hid (∀ i, i < k → validP (P.getD i p0) = true) ∧ Hid (Grew w wr)) (fun i _ => n - (intOf i).toNat)
  case atStart => exact ⟨0, by omega, rfl, fun i hi => absurd hi (by omega), Grew.refl _⟩
  case round =>
    obtain ⟨k, hk, rfl, hall, hg⟩ := hrel
    by_cases hlt : k < n
    · have hi0 : (0 : Int) ≤ (k : Int) := by omega
      have hi5 : (k : Int) < (n : Int) := by omega
      obtain ⟨b, off, rfl, e0, e1⟩ := (HI.out.grew hg.out).at hlt
      obtain ⟨c, hc⟩ : ∃ c, c = P.getD k p0 := ⟨_, rfl⟩
      rw [← hc] at e0 e1
      have HC := Lib.hid hc
      have HV := Lib.hid (Valid_any c)
      obtain ⟨q, hq⟩ : ∃ q, q = validP c := ⟨_, rfl⟩
      rw [← hq] at HV
      have HQ := Lib.hid hq
      clear hc hq
      unfold ptV at HV
      cases q with
      | true =>
        go_wp2_with fail
        refine (HV.out _).mono ?_
        rintro e w1 ⟨rfl, hg1⟩
        have HG := Lib.hid ((hg.out.alloc _).trans hg1)
        clear hg1
        go_wp2_with fail
        go_roundw
        case rel =>
          refine ⟨k + 1, by omega, by go_num, fun i hi => ?_, HG.out⟩
          by_cases hik : i < k
          · exact hall.out i hik
          · obtain rfl : i = k := by omega
            rw [← HC.out]; exact HQ.out.symm
        case measure => simp [intOf]; omega
      | false =>
        go_wp2_with fail
        refine (HV.out _).mono ?_
        rintro e w1 ⟨rfl, hg1⟩
        have HG := Lib.hid ((hg.out.alloc _).trans hg1)
        clear hg1
        go_wp2_with fail
        go_ret
        refine ⟨?_, HG.out⟩
        rw [all_not (by rw [HI.out.1]; exact hlt) (by rw [← HC.out]; exact HQ.out.symm)]
        rfl
    · obtain rfl : k = n := by omega
      go_wp2
      go_ret
      refine ⟨?_, hg.out⟩
      rw [all_of HI.out.1 hall.out]
      rfl
/-- three points of a new array. -/
theorem pts3 (w : World) (a b c : Pt) : IsPts (w.alloc (.cells #[.int .i64 a.x, .int .i64 a.y, .int .i64 b.x, .int .i64 b.y, .int .i64 c.x, .int .i64 c.y] 27)) (some ⟨w.heap.size, 0, none⟩) 3 3 [a, b, c] := by
  refine ⟨rfl, Nat.le_refl _, by unfold maxLen; omega, fun _ => ⟨_, _, rfl, fun i hi => ?_⟩, fun h => by cases h⟩
  have h := alloc_new w (.cells #[.int .i64 a.x, .int .i64 a.y, .int .i64 b.x, .int .i64 b.y, .int .i64 c.x, .int .i64 c.y] 27)
  match i, hi with
  | 0, _ => exact ⟨cell_of_row _ _ _ _ _ _ h, cell_of_row _ _ _ _ _ _ h⟩
  | 1, _ => exact ⟨cell_of_row _ _ _ _ _ _ h, cell_of_row _ _ _ _ _ _ h⟩
  | 2, _ => exact ⟨cell_of_row _ _ _ _ _ _ h, cell_of_row _ _ _ _ _ _ h⟩
set_option maxRecDepth 100000 in
set_option maxHeartbeats 1000000 in
theorem Turn_any (a b c : Pt) (w : World) :
    Calls Try.prog 69 #[ptV a, ptV b, ptV c] w fun e w' => e = .returned (.int .i64 (turnP a b c)) ∧ Grew w w' := by
  obtain ⟨v, hv⟩ : ∃ v, v = [a, b, c].all validP := ⟨_, rfl⟩
  have HV : Hid (∀ (w : World) (g : Nat), w.heap.size = g → Calls Try.prog 70 #[.slice (some ⟨g, 0, none⟩) 3 3] (w.alloc (.cells #[.int .i64 a.x, .int .i64 a.y, .int .i64 b.x, .int .i64 b.y, .int .i64 c.x, .int .i64 c.y] 27)) fun e w' => e = .returned (.bool v) ∧ Grew (w.alloc (.cells #[.int .i64 a.x, .int .i64 a.y, .int .i64 b.x, .int .i64 b.y, .int .i64 c.x, .int .i64 c.y] 27)) w') := Lib.hid (fun w g hg => by rw [hv, ← hg]; exact valid_any _ _ _ _ _ (pts3 w a b c))
  cases v with
  | false =>
    have ht : turnP a b c = 0 := by
      unfold turnP
      rw [if_neg]
      simp only [List.all_cons, List.all_nil, Bool.and_true] at hv
      intro h
      rw [Bool.and_eq_true, Bool.and_eq_true] at h
      rw [h.1.1, h.1.2, h.2] at hv
      cases hv
    rw [ht]
    clear hv ht
    obtain ⟨ax, ay⟩ := a
    obtain ⟨bx, bY⟩ := b
    obtain ⟨cx, cy⟩ := c
    unfold ptV
    dsimp only at HV ⊢
    go_enter Try.func69, Try.ntmps69
    go_wp2_with fail
    refine (HV.out _ _ (by simp)).mono ?_
    rintro e w1 ⟨rfl, hg1⟩
    go_wp2_with fail
    go_ret
    exact ⟨rfl, ((((Grew.refl w).alloc _).alloc _).alloc _).trans (((Grew.refl _).alloc _).trans hg1)⟩
  | true =>
    have hall : (validP a = true ∧ validP b = true) ∧ validP c = true := by
      simp only [List.all_cons, List.all_nil, Bool.and_true] at hv
      have := hv.symm
      rw [Bool.and_eq_true, Bool.and_eq_true] at this
      exact ⟨⟨this.1, this.2.1⟩, this.2.2⟩
    have ht : turnP a b c = sgn ((b.x - a.x) * (c.y - a.y) - (b.y - a.y) * (c.x - a.x)) := by
      unfold turnP
      rw [hall.1.1, hall.1.2, hall.2]
      rfl
    rw [ht]
    obtain ⟨⟨va, vb⟩, vc⟩ := hall
    rw [validP_iff] at va vb vc
    obtain ⟨ax, ay⟩ := a
    obtain ⟨bx, bY⟩ := b
    obtain ⟨cx, cy⟩ := c
    unfold ptV
    dsimp only at HV va vb vc ⊢
    have HS := Lib.hid (wSign_any (bx - ax) (cy - ay) (bY - ay) (cx - ax) (by omega) (by omega) (by omega) (by omega) (by omega) (by omega) (by omega) (by omega))
    have w1 : wrap64 (bx - ax) = bx - ax := by unfold wrap64; omega
    have w2 : wrap64 (cy - ay) = cy - ay := by unfold wrap64; omega
    have w3 : wrap64 (bY - ay) = bY - ay := by unfold wrap64; omega
    have w4 : wrap64 (cx - ax) = cx - ax := by unfold wrap64; omega
    generalize sgn ((bx - ax) * (cy - ay) - (bY - ay) * (cx - ax)) = r at HS ⊢
    clear hv ht
    go_enter Try.func69, Try.ntmps69
    go_wp2_with fail
    refine (HV.out _ _ (by simp)).mono ?_
    rintro e w5 ⟨rfl, hg1⟩
    have hg : Grew (((w.alloc (Obj.cells #[.int .i64 ax, .int .i64 ay] 27)).alloc (Obj.cells #[.int .i64 bx, .int .i64 bY] 27)).alloc (Obj.cells #[.int .i64 cx, .int .i64 cy] 27)) w5 := ((Grew.refl _).alloc _).trans hg1
    have a0 : w5.cell? ⟨w.heap.size, 0, none⟩ = some (.int .i64 ax) := hg.cell ((((Grew.refl _).alloc _).alloc _).cell (cell_of_row _ _ _ _ _ _ (alloc_new w _)))
    have a1 : w5.cell? ⟨w.heap.size, 1, none⟩ = some (.int .i64 ay) := hg.cell ((((Grew.refl _).alloc _).alloc _).cell (cell_of_row _ _ _ _ _ _ (alloc_new w _)))
    have b0 : w5.cell? ⟨w.heap.size + 1, 0, none⟩ = some (.int .i64 bx) := hg.cell (((Grew.refl _).alloc _).cell (cell_of_row _ _ _ _ _ _ (alloc_new2 w _ _)))
    have b1 : w5.cell? ⟨w.heap.size + 1, 1, none⟩ = some (.int .i64 bY) := hg.cell (((Grew.refl _).alloc _).cell (cell_of_row _ _ _ _ _ _ (alloc_new2 w _ _)))
    have hs : ((w.alloc (Obj.cells #[.int .i64 ax, .int .i64 ay] 27)).alloc (Obj.cells #[.int .i64 bx, .int .i64 bY] 27)).heap.size = w.heap.size + 1 + 1 := by simp
    have c0 : w5.cell? ⟨w.heap.size + 1 + 1, 0, none⟩ = some (.int .i64 cx) := hg.cell (by rw [← hs]; exact cell_of_row _ _ _ _ _ _ (alloc_new _ _))
    have c1 : w5.cell? ⟨w.heap.size + 1 + 1, 1, none⟩ = some (.int .i64 cy) := hg.cell (by rw [← hs]; exact cell_of_row _ _ _ _ _ _ (alloc_new _ _))
    have HG := Lib.hid ((((Grew.refl w).alloc (Obj.cells #[.int .i64 ax, .int .i64 ay] 27)).alloc (Obj.cells #[.int .i64 bx, .int .i64 bY] 27)).alloc (Obj.cells #[.int .i64 cx, .int .i64 cy] 27) |>.trans hg)
    have W1 := Lib.hid w1
    have W2 := Lib.hid w2
    have W3 := Lib.hid w3
    have W4 := Lib.hid w4
    clear hg1 hg hs w1 w2 w3 w4 va vb vc
    go_wp2_with fail
    rw [W1.out, W2.out, W3.out, W4.out]
    refine (HS.out _).mono ?_
    rintro e w6 ⟨rfl, hg6⟩
    go_wp2_with fail
    go_ret
    exact ⟨rfl, HG.out.trans hg6⟩
end Go.Proofs.Ytgijaaklhdcgeaa
