/- slices.Clone, slices.Reverse of points; ring.Turned -/
import Derived.Test.YtgijaaklhdcgeaaMQCounts
import Derived.Test.YtgijaaklhdcgeaaMQLay
import Derived.BigRegion
import Derived.Laws.OwnMore
set_option linter.unusedSimpArgs false
set_option linter.unusedVariables false
namespace Go.Proofs.Ytgijaaklhdcgeaa
open Go.RowKit Go.Geo
attribute [local go_sem] Oper.semAt_some
theorem flatP_set (P : List Pt) (j : Nat) (p : Pt) : flatP (P.set j p) = ((flatP P).set (j * 2) (.int .i64 p.x)).set (j * 2 + 1) (.int .i64 p.y) := by
  induction P generalizing j with
  | nil => simp [flatP]
  | cons a m ih =>
    cases j with
    | zero => simp [flatP_cons]
    | succ j =>
      rw [List.set_cons_succ, flatP_cons, flatP_cons, ih, show (j + 1) * 2 = j * 2 + 1 + 1 by omega]
      simp
theorem OwnP.len {w : World} {base n cap : Nat} {a : Option Addr} {L : List Pt} (h : OwnP w base (.slice a n cap) L) : n = L.length := by
  obtain ⟨ao, c, e, _⟩ := h.pts
  cases e; rfl
theorem OwnP.put {w : World} {base g n cap : Nat} {L : List Pt} (h : OwnP w base (.slice (some ⟨g, 0, none⟩) n cap) L) (j : Nat) (p : Pt) : OwnP ((w.setCell ⟨g, j * 2, none⟩ (.int .i64 p.x)).setCell ⟨g, j * 2 + 1, none⟩ (.int .i64 p.y)) base (.slice (some ⟨g, 0, none⟩) n cap) (L.set j p) := by
  have hn := h.len
  subst hn
  have h1 := (World.ownsRow.stored h (j * 2) (.int .i64 p.x)).1
  have h2 := (World.ownsRow.stored h1 (j * 2 + 1) (.int .i64 p.y)).1
  rw [← flatP_set] at h2
  unfold OwnP
  rw [List.length_set]
  exact h2
theorem OwnP.notFrozen {w : World} {base g n cap : Nat} {L : List Pt} (h : OwnP w base (.slice (some ⟨g, 0, none⟩) n cap) L) (j : Nat) : w.frozen? ⟨g, j, none⟩ = false := by
  have hn := h.len
  subst hn
  exact World.ownsRow.frozenAt h j
theorem OwnP.at {w : World} {base g n cap : Nat} {L : List Pt} (h : OwnP w base (.slice (some ⟨g, 0, none⟩) n cap) L) {j : Nat} (hj : j < L.length) : w.cell? ⟨g, j * 2, none⟩ = some (.int .i64 (L.getD j p0).x) ∧ w.cell? ⟨g, j * 2 + 1, none⟩ = some (.int .i64 (L.getD j p0).y) := by
  have hn := h.len
  subst hn
  obtain ⟨e0, e1⟩ := flatP_get L j hj
  exact ⟨(World.ownsRow.cellAt h (j * 2) (by omega)).trans e0, (World.ownsRow.cellAt h (j * 2 + 1) (by omega)).trans e1⟩
/-- the first k and the last k have changed places. -/
def revK (P : List Pt) (k : Nat) : List Pt := (List.range P.length).map fun t => if t < k ∨ P.length - k ≤ t then P.getD (P.length - 1 - t) p0 else P.getD t p0
theorem revK_length (P : List Pt) (k : Nat) : (revK P k).length = P.length := by simp [revK]
theorem revK_get {P : List Pt} {k t : Nat} (h : t < P.length) : (revK P k)[t]? = some (if t < k ∨ P.length - k ≤ t then P.getD (P.length - 1 - t) p0 else P.getD t p0) := by
  simp [revK, h]
theorem revK_zero (P : List Pt) : revK P 0 = P := by
  apply List.ext_getElem?
  intro t
  by_cases h : t < P.length
  · rw [revK_get h, if_neg (by omega), List.getD_eq_getElem?_getD, List.getElem?_eq_getElem h]; rfl
  · rw [List.getElem?_eq_none (by rw [revK_length]; omega), List.getElem?_eq_none (by omega)]
theorem revK_succ {P : List Pt} {k : Nat} (h : k < P.length - 1 - k) : revK P (k + 1) = ((revK P k).set k ((revK P k).getD (P.length - 1 - k) p0)).set (P.length - 1 - k) ((revK P k).getD k p0) := by
  have g1 : (revK P k).getD (P.length - 1 - k) p0 = P.getD (P.length - 1 - k) p0 := by
    rw [List.getD_eq_getElem?_getD, revK_get (by omega), if_neg (by omega)]; rfl
  have g2 : (revK P k).getD k p0 = P.getD k p0 := by
    rw [List.getD_eq_getElem?_getD, revK_get (by omega), if_neg (by omega)]; rfl
  rw [g1, g2]
  apply List.ext_getElem?
  intro t
  by_cases ht : t < P.length
  · rw [revK_get ht, List.getElem?_set, List.getElem?_set]
    by_cases h1 : P.length - 1 - k = t
    · subst h1
      rw [if_pos (show P.length - 1 - k < k + 1 ∨ P.length - (k + 1) ≤ P.length - 1 - k by omega), if_pos rfl, if_pos (show P.length - 1 - k < ((revK P k).set k (P.getD (P.length - 1 - k) p0)).length by rw [List.length_set, revK_length]; omega), show P.length - 1 - (P.length - 1 - k) = k by omega]
    · rw [if_neg h1]
      by_cases h2 : k = t
      · subst h2
        rw [if_pos (show k < k + 1 ∨ P.length - (k + 1) ≤ k by omega), if_pos rfl, if_pos (show k < (revK P k).length by rw [revK_length]; omega)]
      · rw [if_neg h2, revK_get ht]
        by_cases h3 : t < k ∨ P.length - k ≤ t
        · rw [if_pos h3, if_pos (by omega)]
        · rw [if_neg h3, if_neg (by omega)]
  · rw [List.getElem?_eq_none (by rw [revK_length]; omega), List.getElem?_eq_none (by simp [revK_length]; omega)]
theorem revK_end {P : List Pt} {k : Nat} (h : ¬ k < P.length - 1 - k) (hk : k ≤ P.length) : revK P k = P.reverse := by
  apply List.ext_getElem?
  intro t
  by_cases ht : t < P.length
  · rw [revK_get ht, List.getElem?_reverse ht]
    have e : ∀ i, i < P.length → some (P.getD i p0) = P[i]? := fun i hi => by rw [List.getD_eq_getElem?_getD, List.getElem?_eq_getElem hi]; rfl
    by_cases h3 : t < k ∨ P.length - k ≤ t
    · rw [if_pos h3, e _ (by omega)]
    · rw [if_neg h3, e _ ht, show P.length - 1 - t = t by omega]
  · rw [List.getElem?_eq_none (by rw [revK_length]; omega), List.getElem?_eq_none (by simp; omega)]
set_option maxRecDepth 100000 in
set_option maxHeartbeats 4000000 in
theorem Reverse_any (base g n cap : Nat) (P : List Pt) (w : World) (h : OwnP w base (.slice (some ⟨g, 0, none⟩) n cap) P) (hg : base ≤ g) :
    Calls Try.prog 44 #[.slice (some ⟨g, 0, none⟩) n cap] w fun e w' => (∃ v, e = .returned v) ∧ OwnP w' base (.slice (some ⟨g, 0, none⟩) n cap) P.reverse ∧ Below base w w' := by
  have hn := h.len
  have hgw := (h.lt g rfl).2
  obtain ⟨ao, c, e, hpt⟩ := h.pts
  have hcm : n ≤ cap ∧ cap ≤ maxLen := by cases e; exact ⟨hpt.2.1, hpt.2.2.1⟩
  unfold maxLen at hcm
  obtain ⟨hnc, hcm⟩ := hcm
  have HO := Lib.hid h
  have HN := Lib.hid hn
  have HG := Lib.hid (And.intro hg hgw)
  clear h hn hgw e hpt hg
  go_enter Try.func44, Try.ntmps44
  go_wp2_with fail
  go_loopw [2, 3] (fun i j wr => ∃ k : Nat, k ≤ n ∧ i = .int .i64 k ∧ j = .int .i64 ((n : Int) - 1 - k) ∧ Hid (OwnP wr base (.slice (some ⟨g, 0, none⟩) n cap) (revK P k)) ∧ Hid (Below base w wr)) (fun i _ _ => n - (intOf i).toNat)
  case atStart => exact ⟨0, by omega, rfl, by simp, by rw [revK_zero]; exact HO, Below.refl _ _⟩
  case round =>
    obtain ⟨k, hk, rfl, rfl, hown, hbl⟩ := hrel
    by_cases hlt : k < n - 1 - k
    · obtain ⟨q, hq⟩ : ∃ q, q = n - 1 - k := ⟨_, rfl⟩
      have hqi : (n : Int) - 1 - (k : Int) = (q : Int) := by omega
      have hlt2 : (k : Int) < (q : Int) := by omega
      have hk0 : (0 : Int) ≤ (k : Int) := by omega
      have hk5 : (k : Int) < (n : Int) := by omega
      have hq0 : (0 : Int) ≤ (q : Int) := by omega
      have hq5 : (q : Int) < (n : Int) := by omega
      have hRL : (revK P k).length = n := by rw [revK_length, HN.out]
      obtain ⟨x0, x1⟩ := hown.out.at (j := k) (by omega)
      obtain ⟨y0, y1⟩ := hown.out.at (j := q) (by omega)
      obtain ⟨x, hx⟩ : ∃ x, x = (revK P k).getD k p0 := ⟨_, rfl⟩
      obtain ⟨y, hy⟩ : ∃ x, x = (revK P k).getD q p0 := ⟨_, rfl⟩
      rw [← hx] at x0 x1
      rw [← hy] at y0 y1
      have f0 := hown.out.notFrozen (k * 2)
      have f1 := hown.out.notFrozen (k * 2 + 1)
      have f2 := hown.out.notFrozen (q * 2)
      have f3 := hown.out.notFrozen (q * 2 + 1)
      have HT : Hid (revK P (k + 1) = ((revK P k).set k y).set q x) := Lib.hid (by rw [hx, hy, hq, HN.out]; exact revK_succ (by rw [← HN.out]; exact hlt))
      have hkq : ¬ k = q := by omega
      rw [hqi]
      have HQ := Lib.hid (And.intro hq hqi)
      clear hq hqi hRL hx hy
      go_wp2_with fail
      go_region
      go_wp2_with fail
      go_roundw
      case rel =>
        refine ⟨k + 1, by omega, by go_num, ?_, ?_, ?_⟩
        · have h1 := HQ.out.1
          have h2 := HQ.out.2
          go_num
        · rw [HT.out]
          exact Lib.hid (((hown.out.put k y).put q x).later ((Below.refl _ _).drew))
        · exact Lib.hid ((hbl.out.trans ((((((Below.refl _ _).setCell (p := ⟨g, k * 2, none⟩) HG.out.1 _).setCell (p := ⟨g, k * 2 + 1, none⟩) HG.out.1 _).setCell (p := ⟨g, q * 2, none⟩) HG.out.1 _).setCell (p := ⟨g, q * 2 + 1, none⟩) HG.out.1 _))).drew)
      case measure => simp [intOf]; omega
    · have hqi : ¬ ((k : Int) < (n : Int) - 1 - (k : Int)) := by omega
      have hqi : decide ((k : Int) < (n : Int) - 1 - (k : Int)) = false := decide_eq_false hqi
      go_wp2_with fail
      go_end0
      refine ⟨⟨_, rfl⟩, ?_, hbl.out⟩
      have := hown.out
      rw [revK_end (by rw [← HN.out]; exact hlt) (by rw [← HN.out]; exact hk)] at this
      exact this
theorem OwnP.form {w : World} {base g : Nat} {v : Value} {P : List Pt} (h : OwnP w base v P) (hg : v.ownBlock = some g) : ∃ cap, v = .slice (some ⟨g, 0, none⟩) P.length cap := by
  rcases h.2 with ⟨rfl, _⟩ | ⟨g', cap, cur, rfl, _⟩
  · simp [Value.ownBlock] at hg
  · simp only [Value.ownBlock, Option.some.injEq] at hg
    subst hg
    exact ⟨cap, rfl⟩
set_option maxRecDepth 100000 in
set_option maxHeartbeats 2000000 in
theorem Clone_pts (ad : Addr) (n cap : Nat) (P : List Pt) (w : World) (h : IsPts w (some ad) n cap P) (hn : n ≤ 1000000) :
    Calls Try.prog 43 #[.slice (some ad) n cap] w fun e w' => ∃ v, e = .returned v ∧ OwnP w' w.heap.size v P ∧ (∃ g, v.ownBlock = some g ∧ w.heap.size ≤ g) ∧ Below w.heap.size w w' := by
  have hal : Below w.heap.size w (w.alloc (Obj.cells #[] 27)) := (Below.refl _ _).alloc (Nat.le_refl _) _
  have HPP := Lib.hid (h.later hal (Nat.le_refl _))
  have HAL := Lib.hid hal
  have hql := fun w' => Lib.run_eql_slice_nil (P := Try.prog) w' 28 27 (some ad) n cap 0 0 Try.underlying28
  clear h hal
  go_enter Try.func43, Try.ntmps43
  go_wp2_with (at_builtin; refine wpList_append_pts_at rfl _ _ rfl w.heap.size (.slice (some ⟨w.heap.size, 0, none⟩) 0 0) [] rfl (OwnP.none_new w _ (Nat.le_refl _)) _ _ _ P rfl HPP.out (by simp; omega) HAL.out.size ?_
               intro v5 w5 hown5 hg5 hat5
               have hb5 : Below w.heap.size w w5 := HAL.out.grown hg5 HAL.out.size (fun k hk => by simp only [Value.ownBlock, Option.some.injEq] at hk; omega)
               have H5 := Lib.hid (And.intro hown5 (And.intro hb5 hat5))
               clear hown5 hg5 hb5 hat5)
  go_ret
  refine ⟨_, rfl, H5.out.1, ?_, H5.out.2.1⟩
  rcases H5.out.2.2 with h | h
  · exact ⟨_, h, Nat.le_refl _⟩
  · exact ⟨_, h, by simp⟩
set_option maxRecDepth 100000 in
set_option maxHeartbeats 2000000 in
theorem Turned_any (ad : Addr) (n cap : Nat) (P : List Pt) (w : World) (h : IsPts w (some ad) n cap P) (hn : n ≤ 1000000) :
    Calls Try.prog 21 #[.slice (some ad) n cap] w fun e w' => ∃ ao c, e = .returned (.slice ao n c) ∧ IsPts w' ao n c P.reverse ∧ Below w.heap.size w w' := by
  have hl := h.1
  have HC := Lib.hid (Clone_pts ad n cap P w h hn)
  clear h
  go_enter Try.func21, Try.ntmps21
  go_wp2_with fail
  refine HC.out.mono ?_
  rintro e w1 ⟨v1, rfl, ho1, ⟨g, hg, hgw⟩, hb1⟩
  obtain ⟨c1, rfl⟩ := ho1.form hg
  have HR := Lib.hid (Reverse_any w.heap.size g P.length c1 P w1 ho1 hgw)
  have HB1 := Lib.hid hb1
  have HL := Lib.hid hl
  obtain ⟨m, hm⟩ : ∃ m, m = P.length := ⟨_, rfl⟩
  rw [← hm] at HR ⊢
  have HM := Lib.hid hm
  clear ho1 hg hgw hb1 hl hm
  go_wp2_with fail
  refine HR.out.mono ?_
  rintro e w2 ⟨⟨v, rfl⟩, ho2, hb2⟩
  have H2 := Lib.hid (And.intro ho2 (HB1.out.trans hb2))
  clear ho2 hb2
  go_wp2_with fail
  go_ret
  obtain ⟨a2, c2, e2, hp2⟩ := H2.out.1.pts
  have hmn : m = n := by rw [HM.out, HL.out]
  rw [List.length_reverse, ← HM.out] at e2 hp2
  subst hmn
  exact ⟨a2, c2, by rw [← e2]; rfl, hp2, H2.out.2⟩
set_option maxRecDepth 100000 in
set_option maxHeartbeats 2000000 in
theorem Turned_own (ad : Addr) (n cap : Nat) (P : List Pt) (w : World) (h : IsPts w (some ad) n cap P) (hn : n ≤ 1000000) :
    Calls Try.prog 21 #[.slice (some ad) n cap] w fun e w' => ∃ v, e = .returned v ∧ OwnP w' w.heap.size v P.reverse ∧ Below w.heap.size w w' := by
  have hl := h.1
  have HC := Lib.hid (Clone_pts ad n cap P w h hn)
  clear h
  go_enter Try.func21, Try.ntmps21
  go_wp2_with fail
  refine HC.out.mono ?_
  rintro e w1 ⟨v1, rfl, ho1, ⟨g, hg, hgw⟩, hb1⟩
  obtain ⟨c1, rfl⟩ := ho1.form hg
  have HR := Lib.hid (Reverse_any w.heap.size g P.length c1 P w1 ho1 hgw)
  have HB1 := Lib.hid hb1
  have HL := Lib.hid hl
  obtain ⟨m, hm⟩ : ∃ m, m = P.length := ⟨_, rfl⟩
  rw [← hm] at HR ⊢
  have HM := Lib.hid hm
  clear ho1 hg hgw hb1 hl hm
  go_wp2_with fail
  refine HR.out.mono ?_
  rintro e w2 ⟨⟨v, rfl⟩, ho2, hb2⟩
  have H2 := Lib.hid (And.intro ho2 (HB1.out.trans hb2))
  clear ho2 hb2
  go_wp2_with fail
  go_ret
  exact ⟨_, rfl, H2.out.1, H2.out.2⟩
end Go.Proofs.Ytgijaaklhdcgeaa
