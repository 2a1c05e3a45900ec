/- inside.pairs: each point and the one ahead of it -/
import Derived.Test.YtjiiikeniocmfaaGreatMQRing1
import Derived.Test.YtjiiikeniocmfaaGreatMR7b
set_option linter.unusedSimpArgs false
set_option linter.unusedVariables false
namespace Go.Proofs.YtjiiikeniocmfaaGreat
open Go.RowKit Go.Shelf Go.Geo
attribute [local go_sem] Oper.semAt_some
/-- blocks below n0 stay, and all points. -/
def KpP (n0 : Nat) (W W' : World) : Prop := Below n0 W W' ∧ ∀ (j : Nat) (c : Array Value), W.heap[j]? = some (.cells c 24 (0, 0)) → W'.heap[j]? = some (.cells c 24 (0, 0))
theorem KpP.trans {n0 : Nat} {A B C : World} (h : KpP n0 A B) (k : KpP n0 B C) : KpP n0 A C := ⟨h.1.trans k.1, fun j c hj => k.2 j c (h.2 j c hj)⟩
theorem KpP.grew {n0 : Nat} {W W' : World} (h : Below W.heap.size W W') (hn : n0 ≤ W.heap.size) : KpP n0 W W' := ⟨h.mono hn, fun j c hj => (h.block j (Array.getElem?_eq_some_iff.1 hj).1).trans hj⟩
end Go.Proofs.YtjiiikeniocmfaaGreat

/- inside.In -/
set_option linter.unusedSimpArgs false
set_option linter.unusedVariables false
namespace Go.Proofs.YtjiiikeniocmfaaGreat
open Go.RowKit Go.Shelf Go.Geo
attribute [local go_sem] Oper.semAt_some
end Go.Proofs.YtjiiikeniocmfaaGreat

/- the document's crossings: Counts -/
set_option linter.unusedSimpArgs false
set_option linter.unusedVariables false
namespace Go.Proofs.YtjiiikeniocmfaaGreat
open Go.RowKit Go.Geo
theorem turn_val {a b c : Pt} (h : turnP a b c = 1) : validP a = true ∧ validP b = true ∧ validP c = true := by
  unfold turnP at h
  split at h
  · rename_i hv
    simpa [and_assoc] using hv
  · cases h
theorem counts_ref (p a b : Pt) : countsP p a b = if b.y < a.y then decide (b.y ≤ p.y) && decide (p.y < a.y) && decide (turnP b a p = 1) else decide (a.y ≤ p.y) && decide (p.y < b.y) && decide (turnP a b p = 1) := by
  unfold countsP
  by_cases hv : (validP p && validP a && validP b) = true
  · rw [hv]; rfl
  · have h1 : turnP a b p ≠ 1 := fun h => hv (by obtain ⟨h1, h2, h3⟩ := turn_val h; rw [h1, h2, h3]; rfl)
    have h2 : turnP b a p ≠ 1 := fun h => hv (by obtain ⟨h1, h2, h3⟩ := turn_val h; rw [h1, h2, h3]; rfl)
    rw [Bool.not_eq_true] at hv
    rw [hv]
    simp [h1, h2]
set_option maxRecDepth 100000 in
set_option maxHeartbeats 4000000 in
theorem rCounts_any (p a b : Pt) (w : World) :
    Calls Tryz.prog 127 #[ptV p, ptV a, ptV b] w fun e w' => e = .returned (.bool (countsP p a b)) ∧ Grew w w' := by
  have HTA := Lib.hid (rTurn_any a b p)
  have HTB := Lib.hid (rTurn_any b a p)
  have HTAR := Lib.hid (turnP_range a b p)
  have HTBR := Lib.hid (turnP_range b a p)
  obtain ⟨r, hr⟩ : ∃ r, r = countsP p a b := ⟨_, rfl⟩
  rw [← hr]
  rw [counts_ref] at hr
  obtain ⟨ta, hta⟩ : ∃ x, x = turnP a b p := ⟨_, rfl⟩
  obtain ⟨tb, htb⟩ : ∃ x, x = turnP b a p := ⟨_, rfl⟩
  rw [← hta] at HTA HTAR hr
  rw [← htb] at HTB HTBR hr
  have HR := Lib.hid hr
  clear hr hta htb
  obtain ⟨px, py⟩ := p
  obtain ⟨ax, ay⟩ := a
  obtain ⟨bx, bY⟩ := b
  unfold ptV at *
  dsimp only at *
  by_cases hlt : bY < ay
  · have HLT := Lib.hid hlt
    by_cases q1 : bY ≤ py
    · by_cases q2 : py < ay
      · go_enter Tryz.func127, Tryz.ntmps127
        go_wp2_with fail
        refine (HTB.out _).mono ?_
        rintro e w9 ⟨rfl, hg9⟩
        have HG9 := Lib.hid (Grew.trans (a := w) (by first | exact (((Grew.refl _).alloc _).alloc _).alloc _ | exact grew_setCell (grew_setCell (grew_setCell (grew_setCell ((((Grew.refl _).alloc _).alloc _).alloc _) (by simp) _) (by simp) _) (by simp; omega) _) (by simp; omega) _) hg9)
        clear hg9
        go_wp2_with fail
        go_ret
        refine ⟨?_, HG9.out⟩
        rw [HR.out, if_pos HLT.out]
        rcases HTBR.out with h | h | h <;> rw [h] <;> simp [HLT.out, q1, q2] <;> (intros; omega)
      · go_enter Tryz.func127, Tryz.ntmps127
        go_wp2_with fail
        go_ret
        refine ⟨?_, (by first | exact (((Grew.refl _).alloc _).alloc _).alloc _ | exact grew_setCell (grew_setCell (grew_setCell (grew_setCell ((((Grew.refl _).alloc _).alloc _).alloc _) (by simp) _) (by simp) _) (by simp; omega) _) (by simp; omega) _)⟩
        rw [HR.out, if_pos HLT.out]
        simp [HLT.out, q1, q2] <;> (intros; omega)
    · go_enter Tryz.func127, Tryz.ntmps127
      go_wp2_with fail
      go_ret
      refine ⟨?_, (by first | exact (((Grew.refl _).alloc _).alloc _).alloc _ | exact grew_setCell (grew_setCell (grew_setCell (grew_setCell ((((Grew.refl _).alloc _).alloc _).alloc _) (by simp) _) (by simp) _) (by simp; omega) _) (by simp; omega) _)⟩
      rw [HR.out, if_pos HLT.out]
      simp [HLT.out, q1] <;> (intros; omega)
  · have hlt2 : ay ≤ bY := by omega
    have HLT := Lib.hid hlt
    by_cases q1 : ay ≤ py
    · by_cases q2 : py < bY
      · go_enter Tryz.func127, Tryz.ntmps127
        go_wp2_with fail
        refine (HTA.out _).mono ?_
        rintro e w9 ⟨rfl, hg9⟩
        have HG9 := Lib.hid (Grew.trans (a := w) (by first | exact (((Grew.refl _).alloc _).alloc _).alloc _ | exact grew_setCell (grew_setCell (grew_setCell (grew_setCell ((((Grew.refl _).alloc _).alloc _).alloc _) (by simp) _) (by simp) _) (by simp; omega) _) (by simp; omega) _) hg9)
        clear hg9
        go_wp2_with fail
        go_ret
        refine ⟨?_, HG9.out⟩
        rw [HR.out, if_neg (by have := HLT.out; omega)]
        rcases HTAR.out with h | h | h <;> rw [h] <;> simp [HLT.out, q1, q2] <;> (intros; omega)
      · go_enter Tryz.func127, Tryz.ntmps127
        go_wp2_with fail
        go_ret
        refine ⟨?_, (by first | exact (((Grew.refl _).alloc _).alloc _).alloc _ | exact grew_setCell (grew_setCell (grew_setCell (grew_setCell ((((Grew.refl _).alloc _).alloc _).alloc _) (by simp) _) (by simp) _) (by simp; omega) _) (by simp; omega) _)⟩
        rw [HR.out, if_neg (by have := HLT.out; omega)]
        simp [HLT.out, q1, q2] <;> (intros; omega)
    · go_enter Tryz.func127, Tryz.ntmps127
      go_wp2_with fail
      go_ret
      refine ⟨?_, (by first | exact (((Grew.refl _).alloc _).alloc _).alloc _ | exact grew_setCell (grew_setCell (grew_setCell (grew_setCell ((((Grew.refl _).alloc _).alloc _).alloc _) (by simp) _) (by simp) _) (by simp; omega) _) (by simp; omega) _)⟩
      rw [HR.out, if_neg (by have := HLT.out; omega)]
      simp [HLT.out, q1] <;> (intros; omega)
end Go.Proofs.YtjiiikeniocmfaaGreat
