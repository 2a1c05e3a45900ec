/- slices.Clone, slices.Reverse of points; ring.Turned -/
import Derived.Test.YtgijaaklhdcgeaaGreatMQCounts
import Derived.Test.YtgijaaklhdcgeaaGreatMQLay
import Derived.BigRegion
import Derived.Laws.OwnMore
import Derived.Test.YtgijaaklhdcgeaaGreatMQCheck
import Derived.Test.YtgijaaklhdcgeaaGreatMQConcat
import Derived.Test.YtgijaaklhdcgeaaGreatMNum1
import Derived.Test.YtgijaaklhdcgeaaGreatMRegX
import Derived.Test.YtgijaaklhdcgeaaGreatMQCont
set_option linter.unusedSimpArgs false
set_option linter.unusedVariables false
namespace Go.Proofs.YtgijaaklhdcgeaaGreat
open Go.RowKit Go.Geo
attribute [local go_sem] Oper.semAt_some
theorem flatP_set (P : List Pt) (j : Nat) (p : Pt) : flatP (P.set j p) = ((flatP P).set (j * 2) (.int .i64 p.x)).set (j * 2 + 1) (.int .i64 p.y) := by
  induction P generalizing j with
  | nil => simp [flatP]
  | cons a m ih =>
    cases j with
    | zero => simp [flatP_cons]
    | succ j =>
      rw [List.set_cons_succ, flatP_cons, flatP_cons, ih, show (j + 1) * 2 = j * 2 + 1 + 1 by omega]
      simp
theorem OwnP.len {w : World} {base n cap : Nat} {a : Option Addr} {L : List Pt} (h : OwnP w base (.slice a n cap) L) : n = L.length := by
  obtain ⟨ao, c, e, _⟩ := h.pts
  cases e; rfl
theorem OwnP.put {w : World} {base g n cap : Nat} {L : List Pt} (h : OwnP w base (.slice (some ⟨g, 0, none⟩) n cap) L) (j : Nat) (p : Pt) : OwnP ((w.setCell ⟨g, j * 2, none⟩ (.int .i64 p.x)).setCell ⟨g, j * 2 + 1, none⟩ (.int .i64 p.y)) base (.slice (some ⟨g, 0, none⟩) n cap) (L.set j p) := by
  have hn := h.len
  subst hn
  have h1 := (World.ownsRow.stored h (j * 2) (.int .i64 p.x)).1
  have h2 := (World.ownsRow.stored h1 (j * 2 + 1) (.int .i64 p.y)).1
  rw [← flatP_set] at h2
  unfold OwnP
  rw [List.length_set]
  exact h2
theorem OwnP.notFrozen {w : World} {base g n cap : Nat} {L : List Pt} (h : OwnP w base (.slice (some ⟨g, 0, none⟩) n cap) L) (j : Nat) : w.frozen? ⟨g, j, none⟩ = false := by
  have hn := h.len
  subst hn
  exact World.ownsRow.frozenAt h j
theorem OwnP.at {w : World} {base g n cap : Nat} {L : List Pt} (h : OwnP w base (.slice (some ⟨g, 0, none⟩) n cap) L) {j : Nat} (hj : j < L.length) : w.cell? ⟨g, j * 2, none⟩ = some (.int .i64 (L.getD j p0).x) ∧ w.cell? ⟨g, j * 2 + 1, none⟩ = some (.int .i64 (L.getD j p0).y) := by
  have hn := h.len
  subst hn
  obtain ⟨e0, e1⟩ := flatP_get L j hj
  exact ⟨(World.ownsRow.cellAt h (j * 2) (by omega)).trans e0, (World.ownsRow.cellAt h (j * 2 + 1) (by omega)).trans e1⟩
/-- the first k and the last k have changed places. -/
def revK (P : List Pt) (k : Nat) : List Pt := (List.range P.length).map fun t => if t < k ∨ P.length - k ≤ t then P.getD (P.length - 1 - t) p0 else P.getD t p0
theorem revK_length (P : List Pt) (k : Nat) : (revK P k).length = P.length := by simp [revK]
theorem revK_get {P : List Pt} {k t : Nat} (h : t < P.length) : (revK P k)[t]? = some (if t < k ∨ P.length - k ≤ t then P.getD (P.length - 1 - t) p0 else P.getD t p0) := by
  simp [revK, h]
theorem revK_zero (P : List Pt) : revK P 0 = P := by
  apply List.ext_getElem?
  intro t
  by_cases h : t < P.length
  · rw [revK_get h, if_neg (by omega), List.getD_eq_getElem?_getD, List.getElem?_eq_getElem h]; rfl
  · rw [List.getElem?_eq_none (by rw [revK_length]; omega), List.getElem?_eq_none (by omega)]
theorem revK_succ {P : List Pt} {k : Nat} (h : k < P.length - 1 - k) : revK P (k + 1) = ((revK P k).set k ((revK P k).getD (P.length - 1 - k) p0)).set (P.length - 1 - k) ((revK P k).getD k p0) := by
  have g1 : (revK P k).getD (P.length - 1 - k) p0 = P.getD (P.length - 1 - k) p0 := by
    rw [List.getD_eq_getElem?_getD, revK_get (by omega), if_neg (by omega)]; rfl
  have g2 : (revK P k).getD k p0 = P.getD k p0 := by
    rw [List.getD_eq_getElem?_getD, revK_get (by omega), if_neg (by omega)]; rfl
  rw [g1, g2]
  apply List.ext_getElem?
  intro t
  by_cases ht : t < P.length
  · rw [revK_get ht, List.getElem?_set, List.getElem?_set]
    by_cases h1 : P.length - 1 - k = t
    · subst h1
      rw [if_pos (show P.length - 1 - k < k + 1 ∨ P.length - (k + 1) ≤ P.length - 1 - k by omega), if_pos rfl, if_pos (show P.length - 1 - k < ((revK P k).set k (P.getD (P.length - 1 - k) p0)).length by rw [List.length_set, revK_length]; omega), show P.length - 1 - (P.length - 1 - k) = k by omega]
    · rw [if_neg h1]
      by_cases h2 : k = t
      · subst h2
        rw [if_pos (show k < k + 1 ∨ P.length - (k + 1) ≤ k by omega), if_pos rfl, if_pos (show k < (revK P k).length by rw [revK_length]; omega)]
      · rw [if_neg h2, revK_get ht]
        by_cases h3 : t < k ∨ P.length - k ≤ t
        · rw [if_pos h3, if_pos (by omega)]
        · rw [if_neg h3, if_neg (by omega)]
  · rw [List.getElem?_eq_none (by rw [revK_length]; omega), List.getElem?_eq_none (by simp [revK_length]; omega)]
theorem revK_end {P : List Pt} {k : Nat} (h : ¬ k < P.length - 1 - k) (hk : k ≤ P.length) : revK P k = P.reverse := by
  apply List.ext_getElem?
  intro t
  by_cases ht : t < P.length
  · rw [revK_get ht, List.getElem?_reverse ht]
    have e : ∀ i, i < P.length → some (P.getD i p0) = P[i]? := fun i hi => by rw [List.getD_eq_getElem?_getD, List.getElem?_eq_getElem hi]; rfl
    by_cases h3 : t < k ∨ P.length - k ≤ t
    · rw [if_pos h3, e _ (by omega)]
    · rw [if_neg h3, e _ ht, show P.length - 1 - t = t by omega]
  · rw [List.getElem?_eq_none (by rw [revK_length]; omega), List.getElem?_eq_none (by simp; omega)]
set_option maxRecDepth 100000 in
set_option maxHeartbeats 4000000 in
theorem Reverse_any (base g n cap : Nat) (P : List Pt) (w : World) (h : OwnP w base (.slice (some ⟨g, 0, none⟩) n cap) P) (hg : base ≤ g) :
    Calls Tryz.prog 80 #[.slice (some ⟨g, 0, none⟩) n cap] w fun e w' => (∃ v, e = .returned v) ∧ OwnP w' base (.slice (some ⟨g, 0, none⟩) n cap) P.reverse ∧ Below base w w' := by
  have hn := h.len
  have hgw := (h.lt g rfl).2
  obtain ⟨ao, c, e, hpt⟩ := h.pts
  have hcm : n ≤ cap ∧ cap ≤ maxLen := by cases e; exact ⟨hpt.2.1, hpt.2.2.1⟩
  unfold maxLen at hcm
  obtain ⟨hnc, hcm⟩ := hcm
  have HO := Lib.hid h
  have HN := Lib.hid hn
  have HG := Lib.hid (And.intro hg hgw)
  clear h hn hgw e hpt hg
  go_enter Tryz.func80, Tryz.ntmps80
  go_wp2_with fail
  go_loopw [2, 3] (fun i j wr => ∃ k : Nat, k ≤ n ∧ i = .int .i64 k ∧ j = .int .i64 ((n : Int) - 1 - k) ∧ Hid (OwnP wr base (.slice (some ⟨g, 0, none⟩) n cap) (revK P k)) ∧ Hid (Below base w wr)) (fun i _ _ => n - (intOf i).toNat)
  case atStart => exact ⟨0, by omega, rfl, by simp, by rw [revK_zero]; exact HO, Below.refl _ _⟩
  case round =>
    obtain ⟨k, hk, rfl, rfl, hown, hbl⟩ := hrel
    by_cases hlt : k < n - 1 - k
    · obtain ⟨q, hq⟩ : ∃ q, q = n - 1 - k := ⟨_, rfl⟩
      have hqi : (n : Int) - 1 - (k : Int) = (q : Int) := by omega
      have hlt2 : (k : Int) < (q : Int) := by omega
      have hk0 : (0 : Int) ≤ (k : Int) := by omega
      have hk5 : (k : Int) < (n : Int) := by omega
      have hq0 : (0 : Int) ≤ (q : Int) := by omega
      have hq5 : (q : Int) < (n : Int) := by omega
      have hRL : (revK P k).length = n := by rw [revK_length, HN.out]
      obtain ⟨x0, x1⟩ := hown.out.at (j := k) (by omega)
      obtain ⟨y0, y1⟩ := hown.out.at (j := q) (by omega)
      obtain ⟨x, hx⟩ : ∃ x, x = (revK P k).getD k p0 := ⟨_, rfl⟩
      obtain ⟨y, hy⟩ : ∃ x, x = (revK P k).getD q p0 := ⟨_, rfl⟩
      rw [← hx] at x0 x1
      rw [← hy] at y0 y1
      have f0 := hown.out.notFrozen (k * 2)
      have f1 := hown.out.notFrozen (k * 2 + 1)
      have f2 := hown.out.notFrozen (q * 2)
      have f3 := hown.out.notFrozen (q * 2 + 1)
      have HT : Hid (revK P (k + 1) = ((revK P k).set k y).set q x) := Lib.hid (by rw [hx, hy, hq, HN.out]; exact revK_succ (by rw [← HN.out]; exact hlt))
      have hkq : ¬ k = q := by omega
      rw [hqi]
      have HQ := Lib.hid (And.intro hq hqi)
      clear hq hqi hRL hx hy
      go_wp2_with fail
      go_region
      go_wp2_with fail
      go_roundw
      case rel =>
        refine ⟨k + 1, by omega, by go_num, ?_, ?_, ?_⟩
        · have h1 := HQ.out.1
          have h2 := HQ.out.2
          go_num
        · rw [HT.out]
          exact Lib.hid (((hown.out.put k y).put q x).later ((Below.refl _ _).drew))
        · exact Lib.hid ((hbl.out.trans ((((((Below.refl _ _).setCell (p := ⟨g, k * 2, none⟩) HG.out.1 _).setCell (p := ⟨g, k * 2 + 1, none⟩) HG.out.1 _).setCell (p := ⟨g, q * 2, none⟩) HG.out.1 _).setCell (p := ⟨g, q * 2 + 1, none⟩) HG.out.1 _))).drew)
      case measure => simp [intOf]; omega
    · have hqi : ¬ ((k : Int) < (n : Int) - 1 - (k : Int)) := by omega
      have hqi : decide ((k : Int) < (n : Int) - 1 - (k : Int)) = false := decide_eq_false hqi
      go_wp2_with fail
      go_end0
      refine ⟨⟨_, rfl⟩, ?_, hbl.out⟩
      have := hown.out
      rw [revK_end (by rw [← HN.out]; exact hlt) (by rw [← HN.out]; exact hk)] at this
      exact this
theorem OwnP.form {w : World} {base g : Nat} {v : Value} {P : List Pt} (h : OwnP w base v P) (hg : v.ownBlock = some g) : ∃ cap, v = .slice (some ⟨g, 0, none⟩) P.length cap := by
  rcases h.2 with ⟨rfl, _⟩ | ⟨g', cap, cur, rfl, _⟩
  · simp [Value.ownBlock] at hg
  · simp only [Value.ownBlock, Option.some.injEq] at hg
    subst hg
    exact ⟨cap, rfl⟩
set_option maxRecDepth 100000 in
set_option maxHeartbeats 2000000 in
theorem Clone_pts (ad : Addr) (n cap : Nat) (P : List Pt) (w : World) (h : IsPts w (some ad) n cap P) (hn : n ≤ 1000000) :
    Calls Tryz.prog 79 #[.slice (some ad) n cap] w fun e w' => ∃ v, e = .returned v ∧ OwnP w' w.heap.size v P ∧ (∃ g, v.ownBlock = some g ∧ w.heap.size ≤ g) ∧ Below w.heap.size w w' := by
  have hal : Below w.heap.size w (w.alloc (Obj.cells #[] 40)) := (Below.refl _ _).alloc (Nat.le_refl _) _
  have HPP := Lib.hid (h.later hal (Nat.le_refl _))
  have HAL := Lib.hid hal
  have hql := fun w' => Lib.run_eql_slice_nil (P := Tryz.prog) w' 36 40 (some ad) n cap 0 0 Tryz.underlying36
  clear h hal
  go_enter Tryz.func79, Tryz.ntmps79
  go_wp2_with (at_builtin; refine wpList_append_pts_at rfl _ _ rfl w.heap.size (.slice (some ⟨w.heap.size, 0, none⟩) 0 0) [] rfl (OwnP.none_new w _ (Nat.le_refl _)) _ _ _ P rfl HPP.out (by simp; omega) HAL.out.size ?_
               intro v5 w5 hown5 hg5 hat5
               have hb5 : Below w.heap.size w w5 := HAL.out.grown hg5 HAL.out.size (fun k hk => by simp only [Value.ownBlock, Option.some.injEq] at hk; omega)
               have H5 := Lib.hid (And.intro hown5 (And.intro hb5 hat5))
               clear hown5 hg5 hb5 hat5)
  go_ret
  refine ⟨_, rfl, H5.out.1, ?_, H5.out.2.1⟩
  rcases H5.out.2.2 with h | h
  · exact ⟨_, h, Nat.le_refl _⟩
  · exact ⟨_, h, by simp⟩
set_option maxRecDepth 100000 in
set_option maxHeartbeats 2000000 in
theorem Turned_any (ad : Addr) (n cap : Nat) (P : List Pt) (w : World) (h : IsPts w (some ad) n cap P) (hn : n ≤ 1000000) :
    Calls Tryz.prog 53 #[.slice (some ad) n cap] w fun e w' => ∃ ao c, e = .returned (.slice ao n c) ∧ IsPts w' ao n c P.reverse ∧ Below w.heap.size w w' := by
  have hl := h.1
  have HC := Lib.hid (Clone_pts ad n cap P w h hn)
  clear h
  go_enter Tryz.func53, Tryz.ntmps53
  go_wp2_with fail
  refine HC.out.mono ?_
  rintro e w1 ⟨v1, rfl, ho1, ⟨g, hg, hgw⟩, hb1⟩
  obtain ⟨c1, rfl⟩ := ho1.form hg
  have HR := Lib.hid (Reverse_any w.heap.size g P.length c1 P w1 ho1 hgw)
  have HB1 := Lib.hid hb1
  have HL := Lib.hid hl
  obtain ⟨m, hm⟩ : ∃ m, m = P.length := ⟨_, rfl⟩
  rw [← hm] at HR ⊢
  have HM := Lib.hid hm
  clear ho1 hg hgw hb1 hl hm
  go_wp2_with fail
  refine HR.out.mono ?_
  rintro e w2 ⟨⟨v, rfl⟩, ho2, hb2⟩
  have H2 := Lib.hid (And.intro ho2 (HB1.out.trans hb2))
  clear ho2 hb2
  go_wp2_with fail
  go_ret
  obtain ⟨a2, c2, e2, hp2⟩ := H2.out.1.pts
  have hmn : m = n := by rw [HM.out, HL.out]
  rw [List.length_reverse, ← HM.out] at e2 hp2
  subst hmn
  exact ⟨a2, c2, by rw [← e2]; rfl, hp2, H2.out.2⟩
set_option maxRecDepth 100000 in
set_option maxHeartbeats 2000000 in
theorem Turned_own (ad : Addr) (n cap : Nat) (P : List Pt) (w : World) (h : IsPts w (some ad) n cap P) (hn : n ≤ 1000000) :
    Calls Tryz.prog 53 #[.slice (some ad) n cap] w fun e w' => ∃ v, e = .returned v ∧ OwnP w' w.heap.size v P.reverse ∧ Below w.heap.size w w' := by
  have hl := h.1
  have HC := Lib.hid (Clone_pts ad n cap P w h hn)
  clear h
  go_enter Tryz.func53, Tryz.ntmps53
  go_wp2_with fail
  refine HC.out.mono ?_
  rintro e w1 ⟨v1, rfl, ho1, ⟨g, hg, hgw⟩, hb1⟩
  obtain ⟨c1, rfl⟩ := ho1.form hg
  have HR := Lib.hid (Reverse_any w.heap.size g P.length c1 P w1 ho1 hgw)
  have HB1 := Lib.hid hb1
  have HL := Lib.hid hl
  obtain ⟨m, hm⟩ : ∃ m, m = P.length := ⟨_, rfl⟩
  rw [← hm] at HR ⊢
  have HM := Lib.hid hm
  clear ho1 hg hgw hb1 hl hm
  go_wp2_with fail
  refine HR.out.mono ?_
  rintro e w2 ⟨⟨v, rfl⟩, ho2, hb2⟩
  have H2 := Lib.hid (And.intro ho2 (HB1.out.trans hb2))
  clear ho2 hb2
  go_wp2_with fail
  go_ret
  exact ⟨_, rfl, H2.out.1, H2.out.2⟩
end Go.Proofs.YtgijaaklhdcgeaaGreat

/- point.Compare; ring.least, Sign, From, Normal (printed by mknorm.py) -/
set_option linter.unusedSimpArgs false
set_option linter.unusedVariables false
namespace Go.Proofs.YtgijaaklhdcgeaaGreat
open Go.RowKit Go.Geo
attribute [local go_sem] Oper.semAt_some
set_option maxRecDepth 100000 in
set_option maxHeartbeats 1000000 in
theorem Compare_any (a b : Pt) (w : World) : Calls Tryz.prog 35 #[ptV a, ptV b] w fun e w' => e = .returned (.int .i64 (compP a b)) ∧ Grew w w' := by
  obtain ⟨r, hr⟩ : ∃ r, r = compP a b := ⟨_, rfl⟩
  rw [← hr]
  have HR : Hid ((if cmpZ a.y b.y = 0 then cmpZ a.x b.x else cmpZ a.y b.y) = r) := Lib.hid (by rw [hr]; unfold compP; by_cases h : cmpZ a.y b.y = 0 <;> simp [h])
  obtain ⟨W, hW⟩ : ∃ W, W = (w.alloc (.cells #[.int .i64 a.x, .int .i64 a.y] 40)).alloc (.cells #[.int .i64 b.x, .int .i64 b.y] 40) := ⟨_, rfl⟩
  have a0 : W.heap[w.heap.size]? = some (.cells #[.int .i64 a.x, .int .i64 a.y] 40 (0, 0)) := by rw [hW]; exact (Below.heap_alloc _ _ _ (by simp)).trans (alloc_new _ _)
  have a1 : W.heap[w.heap.size + 1]? = some (.cells #[.int .i64 b.x, .int .i64 b.y] 40 (0, 0)) := by rw [hW]; exact alloc_new2 _ _ _
  have HGW : Hid (Grew w W) := Lib.hid (by rw [hW]; exact ((Grew.refl _).alloc _).alloc _)
  have HCELLS : Hid (∀ wX, Below W.heap.size W wX → wX.cell? ⟨w.heap.size, 0, none⟩ = some (.int .i64 a.x) ∧ wX.cell? ⟨w.heap.size, 1, none⟩ = some (.int .i64 a.y) ∧ wX.cell? ⟨w.heap.size + 1, 0, none⟩ = some (.int .i64 b.x) ∧ wX.cell? ⟨w.heap.size + 1, 1, none⟩ = some (.int .i64 b.y)) := Lib.hid (fun wX hX => by
    have k0 := (hX.block _ (heap_lt' a0)).trans a0
    have k1 := (hX.block _ (heap_lt' a1)).trans a1
    exact ⟨cell_of_row _ _ _ _ _ _ k0, cell_of_row _ _ _ _ _ _ k0, cell_of_row _ _ _ _ _ _ k1, cell_of_row _ _ _ _ _ _ k1⟩)
  clear hr a0 a1
  unfold ptV
  go_enter Tryz.func35, Tryz.ntmps35
  go_wp2_with fail
  rw [← hW]
  clear hW
  have HOK : ∀ r ∈ ([⟨0, 10, 10, none, [], fun V w => IsLit W 3 2 #[.int .i64 (cmpZ a.y b.y), .int .i64 (cmpZ a.x b.x)] (V 10) w⟩] : List Resr), ResOk W r := by
    intro r hr
    simp only [List.mem_cons, List.not_mem_nil, or_false] at hr
    rcases hr with rfl
    · exact resLit_ok (fun _ => _) (fun _ _ _ => rfl)
  refine wp_region_J (s := [(5, 0), (6, 1), (7, 2), (8, 3), (9, 4), (10, 5), (11, 6), (12, 7), (13, 8), (14, 9), (15, 10), (16, 11), (4, 12)]) (by kernel_rfl) (fun LXX VXX wXX => ResJ W (fun iX => match iX with | 0 => some (.pointer (some ⟨w.heap.size, 1, none⟩)) | 1 => some (.int .i64 (a.y)) | 2 => some (.pointer (some ⟨(w.heap.size + 1), 1, none⟩)) | 3 => some (.int .i64 (b.y)) | 4 => some (.int .i64 (cmpZ a.y b.y)) | 5 => some (.pointer (some ⟨w.heap.size, 0, none⟩)) | 6 => some (.int .i64 (a.x)) | 7 => some (.pointer (some ⟨(w.heap.size + 1), 0, none⟩)) | 8 => some (.int .i64 (b.x)) | 9 => some (.int .i64 (cmpZ a.x b.x)) | 11 => some (.int .i64 (r)) | 12 => some (.int .i64 (r)) | _ => none) [⟨0, 10, 10, none, [], fun V w => IsLit W 3 2 #[.int .i64 (cmpZ a.y b.y), .int .i64 (cmpZ a.x b.x)] (V 10) w⟩] LXX VXX wXX ∧ W.drawn ≤ wXX.drawn) (by kernel_rfl) (by kernel_rfl) (by kernel_rfl) (by kernel_rfl) (fun _ => undef) ?start1 ?step1 ?done1
  case start1 => exact ⟨ResJ.start ((Below.refl _ _).drew) (by kernel_rfl), Nat.le_succ _⟩
  case step1 =>
    refine ⟨?o1_0, ?o1_1, ?o1_2, ?o1_3, ?o1_4, ?o1_5, ?o1_6, ?o1_7, ?o1_8, ?o1_9, ?o1_10, ?o1_11, ?o1_12, trivial⟩
    case o1_0 =>
      intro LX V aX wX K hl hp hcl hf hJ hK
      obtain ⟨hJ, hD⟩ := hJ
      have t2 : aX.tmps[2]? = some (.pointer (some ⟨w.heap.size, 0, none⟩)) := hf.old (by kernel_rfl) rfl
      rw [if_pos (by rfl)]
      go_simp
      exact hK _ _ ⟨hJ.val HOK 0 _ hl (by kernel_rfl) (by kernel_rfl) rfl (Below.refl _ _), hD⟩
    case o1_1 =>
      intro LX V aX wX K hl hp hcl hf hJ hK
      obtain ⟨hJ, hD⟩ := hJ
      have t5 := hf.in (i := 0) (d := 5) (by kernel_rfl) (hp 0 (by kernel_rfl)) (hJ.vals 0 _ rfl (hp 0 (by kernel_rfl)))
      obtain ⟨c0, c1, c2, c3⟩ := HCELLS.out wX hJ.below
      rw [if_pos (by rfl)]
      go_simp
      exact hK _ _ ⟨hJ.val HOK 1 _ hl (by kernel_rfl) (by kernel_rfl) rfl (Below.refl _ _), hD⟩
    case o1_2 =>
      intro LX V aX wX K hl hp hcl hf hJ hK
      obtain ⟨hJ, hD⟩ := hJ
      have t3 : aX.tmps[3]? = some (.pointer (some ⟨(w.heap.size + 1), 0, none⟩)) := hf.old (by kernel_rfl) rfl
      rw [if_pos (by rfl)]
      go_simp
      exact hK _ _ ⟨hJ.val HOK 2 _ hl (by kernel_rfl) (by kernel_rfl) rfl (Below.refl _ _), hD⟩
    case o1_3 =>
      intro LX V aX wX K hl hp hcl hf hJ hK
      obtain ⟨hJ, hD⟩ := hJ
      have t7 := hf.in (i := 2) (d := 7) (by kernel_rfl) (hp 2 (by kernel_rfl)) (hJ.vals 2 _ rfl (hp 2 (by kernel_rfl)))
      obtain ⟨c0, c1, c2, c3⟩ := HCELLS.out wX hJ.below
      rw [if_pos (by rfl)]
      go_simp
      exact hK _ _ ⟨hJ.val HOK 3 _ hl (by kernel_rfl) (by kernel_rfl) rfl (Below.refl _ _), hD⟩
    case o1_4 =>
      intro LX V aX wX K hl hp hcl hf hJ hK
      obtain ⟨hJ, hD⟩ := hJ
      have t6 := hf.in (i := 1) (d := 6) (by kernel_rfl) (hp 1 (by kernel_rfl)) (hJ.vals 1 _ rfl (hp 1 (by kernel_rfl)))
      have t8 := hf.in (i := 3) (d := 8) (by kernel_rfl) (hp 3 (by kernel_rfl)) (hJ.vals 3 _ rfl (hp 3 (by kernel_rfl)))
      rw [if_pos (by rfl)]
      go_simp
      refine (cmpInt_any _ _ _).mono ?_
      rintro e wA ⟨rfl, rfl⟩
      exact hK _ _ ⟨hJ.val HOK 4 _ hl (by kernel_rfl) (by kernel_rfl) rfl (Below.refl _ _), hD⟩
    case o1_5 =>
      intro LX V aX wX K hl hp hcl hf hJ hK
      obtain ⟨hJ, hD⟩ := hJ
      have t2 : aX.tmps[2]? = some (.pointer (some ⟨w.heap.size, 0, none⟩)) := hf.old (by kernel_rfl) rfl
      rw [if_pos (by rfl)]
      go_simp
      exact hK _ _ ⟨hJ.val HOK 5 _ hl (by kernel_rfl) (by kernel_rfl) rfl (Below.refl _ _), hD⟩
    case o1_6 =>
      intro LX V aX wX K hl hp hcl hf hJ hK
      obtain ⟨hJ, hD⟩ := hJ
      have t10 := hf.in (i := 5) (d := 10) (by kernel_rfl) (hp 5 (by kernel_rfl)) (hJ.vals 5 _ rfl (hp 5 (by kernel_rfl)))
      obtain ⟨c0, c1, c2, c3⟩ := HCELLS.out wX hJ.below
      rw [if_pos (by rfl)]
      go_simp
      exact hK _ _ ⟨hJ.val HOK 6 _ hl (by kernel_rfl) (by kernel_rfl) rfl (Below.refl _ _), hD⟩
    case o1_7 =>
      intro LX V aX wX K hl hp hcl hf hJ hK
      obtain ⟨hJ, hD⟩ := hJ
      have t3 : aX.tmps[3]? = some (.pointer (some ⟨(w.heap.size + 1), 0, none⟩)) := hf.old (by kernel_rfl) rfl
      rw [if_pos (by rfl)]
      go_simp
      exact hK _ _ ⟨hJ.val HOK 7 _ hl (by kernel_rfl) (by kernel_rfl) rfl (Below.refl _ _), hD⟩
    case o1_8 =>
      intro LX V aX wX K hl hp hcl hf hJ hK
      obtain ⟨hJ, hD⟩ := hJ
      have t12 := hf.in (i := 7) (d := 12) (by kernel_rfl) (hp 7 (by kernel_rfl)) (hJ.vals 7 _ rfl (hp 7 (by kernel_rfl)))
      obtain ⟨c0, c1, c2, c3⟩ := HCELLS.out wX hJ.below
      rw [if_pos (by rfl)]
      go_simp
      exact hK _ _ ⟨hJ.val HOK 8 _ hl (by kernel_rfl) (by kernel_rfl) rfl (Below.refl _ _), hD⟩
    case o1_9 =>
      intro LX V aX wX K hl hp hcl hf hJ hK
      obtain ⟨hJ, hD⟩ := hJ
      have t11 := hf.in (i := 6) (d := 11) (by kernel_rfl) (hp 6 (by kernel_rfl)) (hJ.vals 6 _ rfl (hp 6 (by kernel_rfl)))
      have t13 := hf.in (i := 8) (d := 13) (by kernel_rfl) (hp 8 (by kernel_rfl)) (hJ.vals 8 _ rfl (hp 8 (by kernel_rfl)))
      rw [if_pos (by rfl)]
      go_simp
      refine (cmpInt_any _ _ _).mono ?_
      rintro e wA ⟨rfl, rfl⟩
      exact hK _ _ ⟨hJ.val HOK 9 _ hl (by kernel_rfl) (by kernel_rfl) rfl (Below.refl _ _), hD⟩
    case o1_10 =>
      intro LX V aX wX K hl hp hcl hf hJ hK
      obtain ⟨hJ, hD⟩ := hJ
      have t9 := hf.in (i := 4) (d := 9) (by kernel_rfl) (hp 4 (by kernel_rfl)) (hJ.vals 4 _ rfl (hp 4 (by kernel_rfl)))
      have t14 := hf.in (i := 9) (d := 14) (by kernel_rfl) (hp 9 (by kernel_rfl)) (hJ.vals 9 _ rfl (hp 9 (by kernel_rfl)))
      rw [if_pos (by rfl)]
      go_simp
      exact hK _ _ ⟨hJ.step HOK 10 _ hl (by kernel_rfl) trivial none (World.grownBy_alloc _ _ _) (.inl rfl) (new_one (by kernel_rfl) ⟨0, 10, 10, none, [], fun V w => IsLit W 3 2 #[.int .i64 (cmpZ a.y b.y), .int .i64 (cmpZ a.x b.x)] (V 10) w⟩ (List.mem_of_getElem? (i := 0) rfl) rfl ⟨(fun j hj => by rcases hj with rfl | hj; exact .inl rfl; cases hj), ⟨_, upd_at _ _ _, hJ.below.size, alloc_new0 _ _⟩, fun g hg => .inl (by rw [upd_at] at hg; cases hg; exact Nat.le_refl _)⟩), hD⟩
    case o1_11 =>
      intro LX V aX wX K hl hp hcl hf hJ hK
      obtain ⟨hJ, hD⟩ := hJ
      have t15 := hf.in (i := 10) (d := 15) (by kernel_rfl) (hp 10 (by kernel_rfl)) rfl
      have hq0 := hJ.at ⟨0, 10, 10, none, [], fun V w => IsLit W 3 2 #[.int .i64 (cmpZ a.y b.y), .int .i64 (cmpZ a.x b.x)] (V 10) w⟩ (List.mem_of_getElem? (i := 0) rfl) (lor (hp 10 (by kernel_rfl))) trivial
      obtain ⟨g, hg, _, hh⟩ := hq0
      try simp only at hg
      rw [hg] at t15
      rw [if_pos (by rfl)]
      go_simp
      have ho := or_any g (cmpZ a.y b.y) (cmpZ a.x b.x) wX (cell_of_row _ _ _ _ _ _ hh) (cell_of_row _ _ _ _ _ _ hh)
      rw [HR.out] at ho
      refine ho.mono ?_
      rintro e wA ⟨rfl, rfl⟩
      exact hK _ _ ⟨hJ.val HOK 11 _ hl (by kernel_rfl) (by kernel_rfl) rfl (Below.refl _ _), hD⟩
    case o1_12 =>
      intro LX V aX wX K hl hp hcl hf hJ hK
      obtain ⟨hJ, hD⟩ := hJ
      have t16 := hf.in (i := 11) (d := 16) (by kernel_rfl) (hp 11 (by kernel_rfl)) (hJ.vals 11 _ rfl (hp 11 (by kernel_rfl)))
      rw [if_pos (by rfl)]
      go_simp
      exact hK _ _ ⟨hJ.val HOK 12 _ hl (by kernel_rfl) (by kernel_rfl) rfl (Below.refl _ _), hD⟩
  intro V wZ hJ
  obtain ⟨hJ, hD⟩ := hJ
  have hv := hJ.vals 12 _ rfl (by kernel_rfl)
  have HB := Lib.hid (And.intro hJ.below hD)
  simp only [puts, Act.put, List.setIfInBounds_toArray, List.set_cons_zero, List.set_cons_succ]
  rw [hv]
  clear hJ hv HOK hD
  go_wp2_with fail
  go_ret
  exact ⟨rfl, HGW.out.trans HB.out⟩
set_option maxRecDepth 100000 in
set_option maxHeartbeats 1000000 in
theorem least_any (ao : Option Addr) (n cap : Nat) (P : List Pt) (w : World) (h : IsPts w ao n cap P) : Calls Tryz.prog 55 #[.slice ao n cap] w fun e w' => e = .returned (.int .i64 (leastP P : Nat)) ∧ Below w.heap.size w w' := by
  have HI := Lib.hid h
  have HL : Hid (P.length = n) := h.1
  have hcm := h.2.2.1
  have hnc := h.2.1
  unfold maxLen at hcm
  obtain ⟨q, hq⟩ : ∃ q, q = leastP P := ⟨_, rfl⟩
  rw [← hq]
  have HQ := Lib.hid hq
  clear h hq
  go_enter Tryz.func55, Tryz.ntmps55
  go_wp2_with fail
  go_loopw [3, 8] (fun s i wr => ∃ j : Nat, j ≤ n ∧ i = .int .i64 j ∧ (∃ k : Nat, s = .int .i64 k ∧ Hid (k = leastK P j)) ∧ Hid (Below w.heap.size w wr)) (fun _ i _ => n - (intOf i).toNat)
  case atStart => exact ⟨0, by omega, rfl, ⟨0, rfl, rfl⟩, Below.refl _ _⟩
  case round =>
    obtain ⟨j, hj, rfl, ⟨k, rfl, hk⟩, hb⟩ := hrel
    by_cases hlt : j < n
    · have hj0 : (0 : Int) ≤ (j : Int) := by omega
      have hj5 : (j : Int) < (n : Int) := by omega
      have hkn : k < n := by
        rw [hk.out]
        by_cases h0 : j = 0
        · subst h0; simp [leastK]; omega
        · have := (leastK_spec P j).1 (by omega); omega
      have hk0 : (0 : Int) ≤ (k : Int) := by omega
      have hk5 : (k : Int) < (n : Int) := by omega
      have hp := HI.out.later hb.out (Nat.le_refl _)
      obtain ⟨b, off, rfl, e0, e1⟩ := hp.at hlt
      obtain ⟨b', off', hbo, f0, f1⟩ := hp.at hkn
      cases hbo
      obtain ⟨x, hx⟩ : ∃ x, x = P.getD j p0 := ⟨_, rfl⟩
      obtain ⟨y, hy⟩ : ∃ x, x = P.getD k p0 := ⟨_, rfl⟩
      rw [← hx] at e0 e1
      rw [← hy] at f0 f1
      have HCM := Lib.hid (Compare_any x y)
      obtain ⟨r, hr⟩ : ∃ r, r = compP x y := ⟨_, rfl⟩
      rw [← hr] at HCM
      have HS : Hid (leastK P (j + 1) = if r < 0 then j else k) := Lib.hid (by
        rw [leastK, ← hk.out, ← hx, ← hy, hr]
        by_cases h : lessP x y
        · rw [if_pos h, if_pos (compP_lt.2 h)]
        · rw [if_neg h, if_neg (fun h2 => h (compP_lt.1 h2))])
      unfold ptV at HCM
      obtain ⟨W, hW⟩ : ∃ W, W = wr.alloc (.cells #[.int .i64 x.x, .int .i64 x.y] 40) := ⟨_, rfl⟩
      have hww : Below wr.heap.size wr W := by rw [hW]; exact (Below.refl _ _).alloc (Nat.le_refl _) _
      have k5 : W.heap[wr.heap.size]? = some (.cells #[.int .i64 x.x, .int .i64 x.y] 40 (0, 0)) := by rw [hW]; exact alloc_new _ _
      have HCELLS : Hid (∀ wX, Below W.heap.size W wX → wX.cell? ⟨wr.heap.size, 0, none⟩ = some (.int .i64 x.x) ∧ wX.cell? ⟨wr.heap.size, 1, none⟩ = some (.int .i64 x.y) ∧ wX.cell? ⟨b, off + k * 2, none⟩ = some (.int .i64 y.x) ∧ wX.cell? ⟨b, off + k * 2 + 1, none⟩ = some (.int .i64 y.y)) := Lib.hid (fun wX hX => by
        have q5 := (hX.block _ (heap_lt' k5)).trans k5
        have hh : Below wr.heap.size wr wX := hww.trans (hX.mono hww.size)
        exact ⟨cell_of_row _ _ _ _ _ _ q5, cell_of_row _ _ _ _ _ _ q5, (hh.cell (p := ⟨b, off + k * 2, none⟩) (block_lt_of_cell f0)).trans f0, (hh.cell (p := ⟨b, off + k * 2 + 1, none⟩) (block_lt_of_cell f1)).trans f1⟩)
      have HWW : Hid (Below w.heap.size w W) := Lib.hid (hb.out.trans (hww.mono hb.out.size))
      clear hx hy hr hp hww k5 f0 f1 hkn
      go_wp2_with fail
      rw [← hW]
      clear hW e0 e1
      refine wp_region_J (s := [(13, 0), (14, 1), (15, 2), (16, 3), (17, 4), (18, 5), (19, 6)]) (by kernel_rfl) (StdJ W (fun iX => match iX with | 0 => some (.agg #[.int .i64 x.x, .int .i64 x.y]) | 1 => some (.slice (some ⟨b, off, none⟩) n cap) | 2 => some (.int .i64 (k : Int)) | 3 => some (.pointer (some ⟨b, off + k * 2, none⟩)) | 4 => some (.agg #[.int .i64 y.x, .int .i64 y.y]) | 5 => some (.int .i64 (r)) | 6 => some (.bool (decide (r < 0))) | _ => none) []) (by kernel_rfl) (by kernel_rfl) (by kernel_rfl) (by kernel_rfl) (fun _ => undef) ?start5 ?step5 ?done5
      case start5 => exact StdJ.start ((Below.refl _ _).drew)
      case step5 =>
        refine ⟨?o5_0, ?o5_1, ?o5_2, ?o5_3, ?o5_4, ?o5_5, ?o5_6, trivial⟩
        case o5_0 =>
          intro LX V aX wX K hl hp hcl hf hJ hK
          have t5 : aX.tmps[5]? = some (.pointer (some ⟨wr.heap.size, 0, none⟩)) := hf.old (by kernel_rfl) rfl
          obtain ⟨c0, c1, c2, c3⟩ := HCELLS.out wX hJ.below
          rw [if_pos (by rfl)]
          go_simp
          exact hK _ _ (hJ.val (Below.refl _ _) 0 _ (by kernel_rfl) rfl)
        case o5_1 =>
          intro LX V aX wX K hl hp hcl hf hJ hK
          have t0 : aX.tmps[0]? = some (.slice (some ⟨b, off, none⟩) n cap) := hf.old (by kernel_rfl) rfl
          rw [if_pos (by rfl)]
          go_simp
          exact hK _ _ (hJ.val (Below.refl _ _) 1 _ (by kernel_rfl) rfl)
        case o5_2 =>
          intro LX V aX wX K hl hp hcl hf hJ hK
          have t3 : aX.tmps[3]? = some (.int .i64 (k : Int)) := hf.old (by kernel_rfl) rfl
          rw [if_pos (by rfl)]
          go_simp
          exact hK _ _ (hJ.val (Below.refl _ _) 2 _ (by kernel_rfl) rfl)
        case o5_3 =>
          intro LX V aX wX K hl hp hcl hf hJ hK
          have t14 := hf.in (i := 1) (d := 14) (by kernel_rfl) (hp 1 (by kernel_rfl)) (hJ.vals 1 _ rfl (hp 1 (by kernel_rfl)))
          have t15 := hf.in (i := 2) (d := 15) (by kernel_rfl) (hp 2 (by kernel_rfl)) (hJ.vals 2 _ rfl (hp 2 (by kernel_rfl)))
          rw [if_pos (by rfl)]
          go_simp
          exact hK _ _ (hJ.val (Below.refl _ _) 3 _ (by kernel_rfl) rfl)
        case o5_4 =>
          intro LX V aX wX K hl hp hcl hf hJ hK
          have t16 := hf.in (i := 3) (d := 16) (by kernel_rfl) (hp 3 (by kernel_rfl)) (hJ.vals 3 _ rfl (hp 3 (by kernel_rfl)))
          obtain ⟨c0, c1, c2, c3⟩ := HCELLS.out wX hJ.below
          rw [if_pos (by rfl)]
          go_simp
          exact hK _ _ (hJ.val (Below.refl _ _) 4 _ (by kernel_rfl) rfl)
        case o5_5 =>
          intro LX V aX wX K hl hp hcl hf hJ hK
          have t13 := hf.in (i := 0) (d := 13) (by kernel_rfl) (hp 0 (by kernel_rfl)) (hJ.vals 0 _ rfl (hp 0 (by kernel_rfl)))
          have t17 := hf.in (i := 4) (d := 17) (by kernel_rfl) (hp 4 (by kernel_rfl)) (hJ.vals 4 _ rfl (hp 4 (by kernel_rfl)))
          rw [if_pos (by rfl)]
          go_simp
          refine (HCM.out _).mono ?_
          rintro e wA ⟨rfl, hgA⟩
          exact hK _ _ (hJ.val (hgA.1) 5 _ (by kernel_rfl) rfl)
        case o5_6 =>
          intro LX V aX wX K hl hp hcl hf hJ hK
          have t18 := hf.in (i := 5) (d := 18) (by kernel_rfl) (hp 5 (by kernel_rfl)) (hJ.vals 5 _ rfl (hp 5 (by kernel_rfl)))
          rw [if_pos (by rfl)]
          go_simp
          exact hK _ _ (hJ.val (Below.refl _ _) 6 _ (by kernel_rfl) rfl)
      intro V wZ hJ
      have hv := hJ.vals 6 _ rfl (by kernel_rfl)
      have HB := Lib.hid hJ.below
      simp only [puts, Act.put, List.setIfInBounds_toArray, List.set_cons_zero, List.set_cons_succ]
      rw [hv]
      clear hJ hv
      have HB2 := Lib.hid (HWW.out.trans (HB.out.mono HWW.out.size))
      by_cases hneg : r < 0
      · have hd : decide (r < 0) = true := decide_eq_true hneg
        have HN := Lib.hid hneg
        clear hneg
        rw [hd]
        clear hd
        go_wp2_with fail
        go_roundw
        case rel => exact ⟨j + 1, by omega, by go_num, ⟨j, rfl, Lib.hid (by rw [HS.out, if_pos HN.out])⟩, HB2⟩
        case measure => simp [intOf]; omega
      · have hd : decide (r < 0) = false := decide_eq_false hneg
        have HN := Lib.hid hneg
        clear hneg
        rw [hd]
        clear hd
        go_wp2_with fail
        go_roundw
        case rel => exact ⟨j + 1, by omega, by go_num, ⟨k, rfl, Lib.hid (by rw [HS.out, if_neg HN.out])⟩, HB2⟩
        case measure => simp [intOf]; omega
    · have hjn : n = j := by omega
      subst hjn
      have HK : Hid (k = q) := Lib.hid (by rw [HQ.out, hk.out]; unfold leastP; rw [HL.out])
      go_wp2_with fail
      go_ret
      exact ⟨by rw [HK.out]; rfl, hb.out⟩
theorem atP_round (P : List Pt) (i : Nat) : atP P (i + P.length) = atP P i := by unfold atP; rw [Nat.add_mod_right]
set_option maxRecDepth 100000 in
set_option maxHeartbeats 1000000 in
theorem Sign_any (ao : Option Addr) (n cap : Nat) (P : List Pt) (w : World) (h : IsPts w ao n cap P) : Calls Tryz.prog 52 #[.slice ao n cap] w fun e w' => e = .returned (.int .i64 (signP P)) ∧ Below w.heap.size w w' := by
  have HI := Lib.hid h
  have HL : Hid (P.length = n) := h.1
  have hcm := h.2.2.1
  have hnc := h.2.1
  unfold maxLen at hcm
  have HCK := Lib.hid (Check_ring ao n cap P w h)
  obtain ⟨f, hf⟩ : ∃ f, f = ringCheckP P := ⟨_, rfl⟩
  rw [← hf] at HCK
  have HF := Lib.hid hf
  obtain ⟨f, g⟩ := f
  unfold faultV at HCK
  dsimp only at HCK
  obtain ⟨r, hr⟩ : ∃ r, r = signP P := ⟨_, rfl⟩
  rw [← hr]
  have HR := Lib.hid hr
  have hfd := fieldF0
  clear h hf hr
  by_cases hz : f = 0
  · subst hz
    have hok := ring_ok (l := P) (by rw [← HF.out])
    rw [HL.out] at hok
    obtain ⟨h3, h200, _⟩ := hok
    go_enter Tryz.func52, Tryz.ntmps52
    go_wp2_with fail
    refine HCK.out.mono ?_
    rintro e w1 ⟨rfl, hb1⟩
    have HB0 := Lib.hid hb1
    have HLE := Lib.hid (least_any ao n cap P w1 (HI.out.later hb1 (Nat.le_refl _)))
    clear hb1
    obtain ⟨k, hk⟩ : ∃ k, k = leastP P := ⟨_, rfl⟩
    rw [← hk] at HLE
    have hkn : k < n := by have := leastP_lt (l := P) (by rw [HL.out]; omega); rw [HL.out] at this; omega
    have HK := Lib.hid hk
    clear hk
    go_wp2_with fail
    refine HLE.out.mono ?_
    rintro e w1 ⟨rfl, hb1⟩
    have HB1 : Hid (Below w.heap.size w w1) := Lib.hid (HB0.out.trans (hb1.mono HB0.out.size))
    have hp := HI.out.later HB1.out (Nat.le_refl _)
    clear hb1
    have k0 : (0 : Int) ≤ (k : Int) := by omega
    have k5 : (k : Int) < (n : Int) := by omega
    have hw1 : IntKind.i64.wrap ((k : Int) - 1) = (k : Int) - 1 := IntWalk.i64_in _ (by omega)
    have hw2 : IntKind.i64.wrap ((k : Int) + 1) = (k : Int) + 1 := IntWalk.i64_in _ (by omega)
    obtain ⟨b, off, rfl, e0, e1⟩ := hp.at hkn
    obtain ⟨x, hx⟩ : ∃ x, x = atP P (k + n - 1) := ⟨_, rfl⟩
    obtain ⟨y, hy⟩ : ∃ x, x = P.getD k p0 := ⟨_, rfl⟩
    obtain ⟨z, hz⟩ : ∃ x, x = atP P (k + 1) := ⟨_, rfl⟩
    rw [← hy] at e0 e1
    have HA1 : Hid (∀ wX, Below w1.heap.size w1 wX → Calls Tryz.prog 71 #[.slice (some ⟨b, off, none⟩) n cap, .int .i64 ((k : Int) - 1)] wX fun e w' => e = .returned (.agg #[.int .i64 x.x, .int .i64 x.y]) ∧ Grew wX w') := Lib.hid (fun wX hX => by
      have h := at_any ((k : Int) - 1) (some ⟨b, off, none⟩) n cap P wX (hp.later hX (Nat.le_refl _)) (by omega) (by omega) (by omega) (by omega)
      rw [show ((k : Int) - 1 + n).toNat = k + n - 1 by omega, ← hx] at h
      exact h)
    have HA2 : Hid (∀ wX, Below w1.heap.size w1 wX → Calls Tryz.prog 71 #[.slice (some ⟨b, off, none⟩) n cap, .int .i64 ((k : Int) + 1)] wX fun e w' => e = .returned (.agg #[.int .i64 z.x, .int .i64 z.y]) ∧ Grew wX w') := Lib.hid (fun wX hX => by
      have h := at_any ((k : Int) + 1) (some ⟨b, off, none⟩) n cap P wX (hp.later hX (Nat.le_refl _)) (by omega) (by omega) (by omega) (by omega)
      rw [show ((k : Int) + 1 + n).toNat = k + 1 + P.length by rw [HL.out]; omega, atP_round, ← hz] at h
      exact h)
    have HTU := Lib.hid (Turn_any x y z)
    have hrt : r = turnP x y z := by rw [HR.out]; unfold signP; rw [← HF.out, if_neg (by simp), ← HK.out, HL.out, ← hx, ← hy, ← hz]
    rw [← hrt] at HTU
    unfold ptV at HTU
    have HCELLS : Hid (∀ wX, Below w1.heap.size w1 wX → wX.cell? ⟨b, off + k * 2, none⟩ = some (.int .i64 y.x) ∧ wX.cell? ⟨b, off + k * 2 + 1, none⟩ = some (.int .i64 y.y)) := Lib.hid (fun wX hX =>
      ⟨(hX.cell (p := ⟨b, off + k * 2, none⟩) (block_lt_of_cell e0)).trans e0, (hX.cell (p := ⟨b, off + k * 2 + 1, none⟩) (block_lt_of_cell e1)).trans e1⟩)
    clear hx hy hz hrt hp e0 e1 hkn
    go_wp2_with fail
    refine wp_region_J (s := [(10, 0), (11, 1), (12, 2), (13, 3), (14, 4), (15, 5), (16, 6), (17, 7), (18, 8), (19, 9), (20, 10), (21, 11), (22, 12), (2, 13)]) (by kernel_rfl) (StdJ w1 (fun iX => match iX with | 0 => some (.slice (some ⟨b, off, none⟩) n cap) | 1 => some (.int .i64 (k : Int)) | 2 => some (.int .i64 ((k : Int) - 1)) | 3 => some (.agg #[.int .i64 x.x, .int .i64 x.y]) | 4 => some (.slice (some ⟨b, off, none⟩) n cap) | 5 => some (.int .i64 (k : Int)) | 6 => some (.pointer (some ⟨b, off + k * 2, none⟩)) | 7 => some (.agg #[.int .i64 y.x, .int .i64 y.y]) | 8 => some (.slice (some ⟨b, off, none⟩) n cap) | 9 => some (.int .i64 (k : Int)) | 10 => some (.int .i64 ((k : Int) + 1)) | 11 => some (.agg #[.int .i64 z.x, .int .i64 z.y]) | 12 => some (.int .i64 (r)) | 13 => some (.int .i64 (r)) | _ => none) []) (by kernel_rfl) (by kernel_rfl) (by kernel_rfl) (by kernel_rfl) (fun _ => undef) ?start4 ?step4 ?done4
    case start4 => exact StdJ.start ((Below.refl _ _).drew)
    case step4 =>
      refine ⟨?o4_0, ?o4_1, ?o4_2, ?o4_3, ?o4_4, ?o4_5, ?o4_6, ?o4_7, ?o4_8, ?o4_9, ?o4_10, ?o4_11, ?o4_12, ?o4_13, trivial⟩
      case o4_0 =>
        intro LX V aX wX K hl hp hcl hf hJ hK
        have t0 : aX.tmps[0]? = some (.slice (some ⟨b, off, none⟩) n cap) := hf.old (by kernel_rfl) rfl
        rw [if_pos (by rfl)]
        go_simp
        exact hK _ _ (hJ.val (Below.refl _ _) 0 _ (by kernel_rfl) rfl)
      case o4_1 =>
        intro LX V aX wX K hl hp hcl hf hJ hK
        have t3 : aX.tmps[3]? = some (.int .i64 (k : Int)) := hf.old (by kernel_rfl) rfl
        rw [if_pos (by rfl)]
        go_simp
        exact hK _ _ (hJ.val (Below.refl _ _) 1 _ (by kernel_rfl) rfl)
      case o4_2 =>
        intro LX V aX wX K hl hp hcl hf hJ hK
        have t11 := hf.in (i := 1) (d := 11) (by kernel_rfl) (hp 1 (by kernel_rfl)) (hJ.vals 1 _ rfl (hp 1 (by kernel_rfl)))
        rw [if_pos (by rfl)]
        go_simp
        exact hK _ _ (hJ.val (Below.refl _ _) 2 _ (by kernel_rfl) rfl)
      case o4_3 =>
        intro LX V aX wX K hl hp hcl hf hJ hK
        have t10 := hf.in (i := 0) (d := 10) (by kernel_rfl) (hp 0 (by kernel_rfl)) (hJ.vals 0 _ rfl (hp 0 (by kernel_rfl)))
        have t12 := hf.in (i := 2) (d := 12) (by kernel_rfl) (hp 2 (by kernel_rfl)) (hJ.vals 2 _ rfl (hp 2 (by kernel_rfl)))
        rw [if_pos (by rfl)]
        go_simp
        refine (HA1.out _ hJ.below).mono ?_
        rintro e wA ⟨rfl, hgA⟩
        exact hK _ _ (hJ.val (hgA.1) 3 _ (by kernel_rfl) rfl)
      case o4_4 =>
        intro LX V aX wX K hl hp hcl hf hJ hK
        have t0 : aX.tmps[0]? = some (.slice (some ⟨b, off, none⟩) n cap) := hf.old (by kernel_rfl) rfl
        rw [if_pos (by rfl)]
        go_simp
        exact hK _ _ (hJ.val (Below.refl _ _) 4 _ (by kernel_rfl) rfl)
      case o4_5 =>
        intro LX V aX wX K hl hp hcl hf hJ hK
        have t3 : aX.tmps[3]? = some (.int .i64 (k : Int)) := hf.old (by kernel_rfl) rfl
        rw [if_pos (by rfl)]
        go_simp
        exact hK _ _ (hJ.val (Below.refl _ _) 5 _ (by kernel_rfl) rfl)
      case o4_6 =>
        intro LX V aX wX K hl hp hcl hf hJ hK
        have t14 := hf.in (i := 4) (d := 14) (by kernel_rfl) (hp 4 (by kernel_rfl)) (hJ.vals 4 _ rfl (hp 4 (by kernel_rfl)))
        have t15 := hf.in (i := 5) (d := 15) (by kernel_rfl) (hp 5 (by kernel_rfl)) (hJ.vals 5 _ rfl (hp 5 (by kernel_rfl)))
        rw [if_pos (by rfl)]
        go_simp
        exact hK _ _ (hJ.val (Below.refl _ _) 6 _ (by kernel_rfl) rfl)
      case o4_7 =>
        intro LX V aX wX K hl hp hcl hf hJ hK
        have t16 := hf.in (i := 6) (d := 16) (by kernel_rfl) (hp 6 (by kernel_rfl)) (hJ.vals 6 _ rfl (hp 6 (by kernel_rfl)))
        obtain ⟨c0, c1⟩ := HCELLS.out wX hJ.below
        rw [if_pos (by rfl)]
        go_simp
        exact hK _ _ (hJ.val (Below.refl _ _) 7 _ (by kernel_rfl) rfl)
      case o4_8 =>
        intro LX V aX wX K hl hp hcl hf hJ hK
        have t0 : aX.tmps[0]? = some (.slice (some ⟨b, off, none⟩) n cap) := hf.old (by kernel_rfl) rfl
        rw [if_pos (by rfl)]
        go_simp
        exact hK _ _ (hJ.val (Below.refl _ _) 8 _ (by kernel_rfl) rfl)
      case o4_9 =>
        intro LX V aX wX K hl hp hcl hf hJ hK
        have t3 : aX.tmps[3]? = some (.int .i64 (k : Int)) := hf.old (by kernel_rfl) rfl
        rw [if_pos (by rfl)]
        go_simp
        exact hK _ _ (hJ.val (Below.refl _ _) 9 _ (by kernel_rfl) rfl)
      case o4_10 =>
        intro LX V aX wX K hl hp hcl hf hJ hK
        have t19 := hf.in (i := 9) (d := 19) (by kernel_rfl) (hp 9 (by kernel_rfl)) (hJ.vals 9 _ rfl (hp 9 (by kernel_rfl)))
        rw [if_pos (by rfl)]
        go_simp
        exact hK _ _ (hJ.val (Below.refl _ _) 10 _ (by kernel_rfl) rfl)
      case o4_11 =>
        intro LX V aX wX K hl hp hcl hf hJ hK
        have t18 := hf.in (i := 8) (d := 18) (by kernel_rfl) (hp 8 (by kernel_rfl)) (hJ.vals 8 _ rfl (hp 8 (by kernel_rfl)))
        have t20 := hf.in (i := 10) (d := 20) (by kernel_rfl) (hp 10 (by kernel_rfl)) (hJ.vals 10 _ rfl (hp 10 (by kernel_rfl)))
        rw [if_pos (by rfl)]
        go_simp
        refine (HA2.out _ hJ.below).mono ?_
        rintro e wA ⟨rfl, hgA⟩
        exact hK _ _ (hJ.val (hgA.1) 11 _ (by kernel_rfl) rfl)
      case o4_12 =>
        intro LX V aX wX K hl hp hcl hf hJ hK
        have t13 := hf.in (i := 3) (d := 13) (by kernel_rfl) (hp 3 (by kernel_rfl)) (hJ.vals 3 _ rfl (hp 3 (by kernel_rfl)))
        have t17 := hf.in (i := 7) (d := 17) (by kernel_rfl) (hp 7 (by kernel_rfl)) (hJ.vals 7 _ rfl (hp 7 (by kernel_rfl)))
        have t21 := hf.in (i := 11) (d := 21) (by kernel_rfl) (hp 11 (by kernel_rfl)) (hJ.vals 11 _ rfl (hp 11 (by kernel_rfl)))
        rw [if_pos (by rfl)]
        go_simp
        refine (HTU.out _).mono ?_
        rintro e wA ⟨rfl, hgA⟩
        exact hK _ _ (hJ.val (hgA.1) 12 _ (by kernel_rfl) rfl)
      case o4_13 =>
        intro LX V aX wX K hl hp hcl hf hJ hK
        have t22 := hf.in (i := 12) (d := 22) (by kernel_rfl) (hp 12 (by kernel_rfl)) (hJ.vals 12 _ rfl (hp 12 (by kernel_rfl)))
        rw [if_pos (by rfl)]
        go_simp
        exact hK _ _ (hJ.val (Below.refl _ _) 13 _ (by kernel_rfl) rfl)
    intro V wZ hJ
    have hv := hJ.vals 13 _ rfl (by kernel_rfl)
    have HB := Lib.hid hJ.below
    simp only [puts, Act.put, List.setIfInBounds_toArray, List.set_cons_zero, List.set_cons_succ]
    rw [hv]
    clear hJ hv
    go_wp2_with fail
    go_ret
    exact ⟨rfl, HB1.out.trans (HB.out.mono HB1.out.size)⟩
  · have hzz : (f == 0) = false := by simp [hz]
    have hzz2 : (f != 0) = true := by simp [hz]
    have hr0 : Hid (r = 0) := Lib.hid (by rw [HR.out]; unfold signP; rw [← HF.out, if_pos hz])
    clear hz
    go_enter Tryz.func52, Tryz.ntmps52
    go_wp2_with fail
    refine HCK.out.mono ?_
    rintro e w1 ⟨rfl, hb1⟩
    have HB1 := Lib.hid hb1
    clear hb1
    go_wp2_with fail
    go_ret
    exact ⟨by rw [hr0.out]; rfl, HB1.out⟩
/-- a part of points in a slice. -/
theorem IsPts.part {w : World} {b off n cap : Nat} {P : List Pt} (h : IsPts w (some ⟨b, off, none⟩) n cap P) {i : Nat} (hi : i ≤ n) : IsPts w (some ⟨b, off, none⟩) i cap (P.take i) := by
  obtain ⟨h1, h2, h3, h4, h5⟩ := h
  refine ⟨by rw [List.length_take]; omega, by omega, h3, fun h0 => ?_, fun h => (by cases h)⟩
  obtain ⟨b', off', e, hc⟩ := h4 (by omega)
  cases e
  refine ⟨b, off, rfl, fun j hj => ?_⟩
  have : (P.take i).getD j p0 = P.getD j p0 := by rw [List.getD_eq_getElem?_getD, List.getD_eq_getElem?_getD, List.getElem?_take_of_lt hj]
  rw [this]
  exact hc j (by omega)
theorem IsPts.rest {w : World} {b off n cap : Nat} {P : List Pt} (h : IsPts w (some ⟨b, off, none⟩) n cap P) {i : Nat} (hi : i ≤ n) : IsPts w (some ⟨b, off + i * 2, none⟩) (n - i) (cap - i) (P.drop i) := by
  obtain ⟨h1, h2, h3, h4, h5⟩ := h
  refine ⟨by rw [List.length_drop]; omega, by omega, by omega, fun h0 => ?_, fun h => (by cases h)⟩
  obtain ⟨b', off', e, hc⟩ := h4 (by omega)
  cases e
  refine ⟨b, off + i * 2, rfl, fun j hj => ?_⟩
  have : (P.drop i).getD j p0 = P.getD (i + j) p0 := by simp [List.getD_eq_getElem?_getD]
  rw [this]
  have := hc (i + j) (by omega)
  rwa [Nat.add_mul, ← Nat.add_assoc] at this
theorem rings_two {w : World} {x y : Option Addr} {n m c d g : Nat} {P Q : List Pt} (hP : IsPts w x n c P) (hQ : IsPts w y m d Q) (hg : w.heap[g]? = some (.cells #[.slice x n c, .slice y m d] 36 (0, 0))) : IsRings w (some ⟨g, 0, none⟩) 2 2 [P, Q] := by
  refine ⟨rfl, Nat.le_refl _, by unfold maxLen; omega, (fun h => (by cases h)), fun k hk => ?_⟩
  match k, hk with
  | 0, _ => exact ⟨_, _, _, _, _, rfl, cell_of_row _ _ _ _ _ _ hg, hP⟩
  | 1, _ => exact ⟨_, _, _, _, _, rfl, cell_of_row _ _ _ _ _ _ hg, hQ⟩
set_option maxRecDepth 100000 in
set_option maxHeartbeats 1000000 in
theorem From_any (ao : Option Addr) (n cap : Nat) (P : List Pt) (i : Nat) (wB : World) (h : IsPts wB ao n cap P) (hi : i < n) (hn : n ≤ 1000000) :
    Calls Tryz.prog 54 #[.slice ao n cap, .int .i64 i] wB fun e w' => ∃ v, e = .returned v ∧ OwnP w' wB.heap.size v (rotP P i) ∧ Below wB.heap.size wB w' := by
  have HL : Hid (P.length = n) := h.1
  have hcm := h.2.2.1
  have hnc := h.2.1
  unfold maxLen at hcm
  obtain ⟨b, off, rfl, _, _⟩ := h.at hi
  have HCC : Hid (∀ wX g, Below wB.heap.size wB wX → wX.heap[g]? = some (.cells #[.slice (some ⟨b, off + i * 2, none⟩) (n - i) (cap - i), .slice (some ⟨b, off, none⟩) i cap] 36 (0, 0)) → Calls Tryz.prog 81 #[.slice (some ⟨g, 0, none⟩) 2 2] wX fun e w' => ∃ v, e = .returned v ∧ OwnP w' wX.heap.size v (rotP P i) ∧ Below wX.heap.size wX w') := Lib.hid (fun wX g hX hg => by
    have hX2 := h.later hX (Nat.le_refl _)
    have h := Concat_pts (some ⟨g, 0, none⟩) 2 2 [P.drop i, P.take i] wX (rings_two (hX2.rest (by omega)) (hX2.part (by omega)) hg) (by simp [sumLen]; have := HL.out; omega)
    simpa [rotP] using h)
  have i0 : (0 : Int) ≤ (i : Int) := by omega
  have i1 : (i : Int) < (n : Int) := by omega
  have i2 : (i : Int) ≤ (n : Int) := by omega
  have i3 : (i : Int) ≤ (cap : Int) := by omega
  have i4 : i ≤ n := by omega
  have i5 : i ≤ cap := by omega
  have hne : ¬ cap = i := by omega
  have hz : ((n : Int) == 0) = false := by simp; omega
  have hz2 : ¬ (n : Int) = 0 := by omega
  have hz3 : ¬ n = 0 := by omega
  have r1 : Int.tmod (i : Int) (n : Int) = (i : Int) := by rw [Int.tmod_eq_emod_of_nonneg (by omega), Int.emod_eq_of_lt (by omega) (by omega)]
  have r2 : (i : Int) % (n : Int) = (i : Int) := Int.emod_eq_of_lt (by omega) (by omega)
  have r3 : Int.tmod ((i : Int) + n) (n : Int) = (i : Int) := by rw [Int.tmod_eq_emod_of_nonneg (by omega), Int.add_emod_right, Int.emod_eq_of_lt (by omega) (by omega)]
  have r4 : ((i : Int) + n) % (n : Int) = (i : Int) := by rw [Int.add_emod_right, Int.emod_eq_of_lt (by omega) (by omega)]
  have r5 : IntKind.i64.wrap ((i : Int) + n) = (i : Int) + n := IntWalk.i64_in _ (by omega)
  clear h hi
  go_enter Tryz.func54, Tryz.ntmps54
  go_wp2_with fail
  have HOK : ∀ r ∈ ([⟨0, 6, 6, none, [], fun V w => IsLit wB 36 2 #[.slice (some ⟨b, off + i * 2, none⟩) (n - i) (cap - i), .slice (some ⟨b, off, none⟩) i cap] (V 6) w⟩, ⟨1, 7, 7, some 8, [], fun V w => OwnP w wB.heap.size (V 7) (rotP P i)⟩, ⟨2, 8, 8, none, [], fun V w => OwnP w wB.heap.size (V 8) (rotP P i)⟩] : List Resr), ResOk wB r := by
    intro r hr
    simp only [List.mem_cons, List.not_mem_nil, or_false] at hr
    rcases hr with rfl | rfl | rfl
    · exact resLit_ok (fun _ => _) (fun _ _ _ => rfl)
    · exact resPts_ok _
    · exact resPts_ok _
  refine wp_region_J (s := [(18, 0), (19, 1), (20, 2), (21, 3), (22, 4), (23, 5), (24, 6), (25, 7), (4, 8)]) (by kernel_rfl) (ResJ wB (fun iX => match iX with | 0 => some (.slice (some ⟨b, off, none⟩) n cap) | 1 => some (.int .i64 (i : Int)) | 2 => some (.slice (some ⟨b, off + i * 2, none⟩) (n - i) (cap - i)) | 3 => some (.slice (some ⟨b, off, none⟩) n cap) | 4 => some (.int .i64 (i : Int)) | 5 => some (.slice (some ⟨b, off, none⟩) i cap) | _ => none) [⟨0, 6, 6, none, [], fun V w => IsLit wB 36 2 #[.slice (some ⟨b, off + i * 2, none⟩) (n - i) (cap - i), .slice (some ⟨b, off, none⟩) i cap] (V 6) w⟩, ⟨1, 7, 7, some 8, [], fun V w => OwnP w wB.heap.size (V 7) (rotP P i)⟩, ⟨2, 8, 8, none, [], fun V w => OwnP w wB.heap.size (V 8) (rotP P i)⟩]) (by kernel_rfl) (by kernel_rfl) (by kernel_rfl) (by kernel_rfl) (fun _ => undef) ?start4 ?step4 ?done4
  case start4 => exact ResJ.start ((Below.refl _ _).drew) (by kernel_rfl)
  case step4 =>
    refine ⟨?o4_0, ?o4_1, ?o4_2, ?o4_3, ?o4_4, ?o4_5, ?o4_6, ?o4_7, ?o4_8, trivial⟩
    case o4_0 =>
      intro LX V aX wX K hl hp hcl hf hJ hK
      have t0 : aX.tmps[0]? = some (.slice (some ⟨b, off, none⟩) n cap) := hf.old (by kernel_rfl) rfl
      rw [if_pos (by rfl)]
      go_simp
      exact hK _ _ (hJ.val HOK 0 _ hl (by kernel_rfl) (by kernel_rfl) rfl (Below.refl _ _))
    case o4_1 =>
      intro LX V aX wX K hl hp hcl hf hJ hK
      have t1 : aX.tmps[1]? = some (.int .i64 (i : Int)) := hf.old (by kernel_rfl) rfl
      rw [if_pos (by rfl)]
      go_simp
      exact hK _ _ (hJ.val HOK 1 _ hl (by kernel_rfl) (by kernel_rfl) rfl (Below.refl _ _))
    case o4_2 =>
      intro LX V aX wX K hl hp hcl hf hJ hK
      have t18 := hf.in (i := 0) (d := 18) (by kernel_rfl) (hp 0 (by kernel_rfl)) (hJ.vals 0 _ rfl (hp 0 (by kernel_rfl)))
      have t19 := hf.in (i := 1) (d := 19) (by kernel_rfl) (hp 1 (by kernel_rfl)) (hJ.vals 1 _ rfl (hp 1 (by kernel_rfl)))
      rw [if_pos (by rfl)]
      go_simp
      exact hK _ _ (hJ.val HOK 2 _ hl (by kernel_rfl) (by kernel_rfl) rfl (Below.refl _ _))
    case o4_3 =>
      intro LX V aX wX K hl hp hcl hf hJ hK
      have t0 : aX.tmps[0]? = some (.slice (some ⟨b, off, none⟩) n cap) := hf.old (by kernel_rfl) rfl
      rw [if_pos (by rfl)]
      go_simp
      exact hK _ _ (hJ.val HOK 3 _ hl (by kernel_rfl) (by kernel_rfl) rfl (Below.refl _ _))
    case o4_4 =>
      intro LX V aX wX K hl hp hcl hf hJ hK
      have t1 : aX.tmps[1]? = some (.int .i64 (i : Int)) := hf.old (by kernel_rfl) rfl
      rw [if_pos (by rfl)]
      go_simp
      exact hK _ _ (hJ.val HOK 4 _ hl (by kernel_rfl) (by kernel_rfl) rfl (Below.refl _ _))
    case o4_5 =>
      intro LX V aX wX K hl hp hcl hf hJ hK
      have t21 := hf.in (i := 3) (d := 21) (by kernel_rfl) (hp 3 (by kernel_rfl)) (hJ.vals 3 _ rfl (hp 3 (by kernel_rfl)))
      have t22 := hf.in (i := 4) (d := 22) (by kernel_rfl) (hp 4 (by kernel_rfl)) (hJ.vals 4 _ rfl (hp 4 (by kernel_rfl)))
      rw [if_pos (by rfl)]
      go_simp
      exact hK _ _ (hJ.val HOK 5 _ hl (by kernel_rfl) (by kernel_rfl) rfl (Below.refl _ _))
    case o4_6 =>
      intro LX V aX wX K hl hp hcl hf hJ hK
      have t20 := hf.in (i := 2) (d := 20) (by kernel_rfl) (hp 2 (by kernel_rfl)) (hJ.vals 2 _ rfl (hp 2 (by kernel_rfl)))
      have t23 := hf.in (i := 5) (d := 23) (by kernel_rfl) (hp 5 (by kernel_rfl)) (hJ.vals 5 _ rfl (hp 5 (by kernel_rfl)))
      rw [if_pos (by rfl)]
      go_simp
      exact hK _ _ (hJ.step HOK 6 _ hl (by kernel_rfl) trivial none (World.grownBy_alloc _ _ _) (.inl rfl) (new_one (by kernel_rfl) ⟨0, 6, 6, none, [], fun V w => IsLit wB 36 2 #[.slice (some ⟨b, off + i * 2, none⟩) (n - i) (cap - i), .slice (some ⟨b, off, none⟩) i cap] (V 6) w⟩ (List.mem_of_getElem? (i := 0) rfl) rfl ⟨(fun j hj => by rcases hj with rfl | hj; exact .inl rfl; cases hj), ⟨_, upd_at _ _ _, hJ.below.size, alloc_new0 _ _⟩, fun g hg => .inl (by rw [upd_at] at hg; cases hg; exact Nat.le_refl _)⟩))
    case o4_7 =>
      intro LX V aX wX K hl hp hcl hf hJ hK
      have t24 := hf.in (i := 6) (d := 24) (by kernel_rfl) (hp 6 (by kernel_rfl)) rfl
      rw [if_pos (by rfl)]
      have hq0 := hJ.at ⟨0, 6, 6, none, [], fun V w => IsLit wB 36 2 #[.slice (some ⟨b, off + i * 2, none⟩) (n - i) (cap - i), .slice (some ⟨b, off, none⟩) i cap] (V 6) w⟩ (List.mem_of_getElem? (i := 0) rfl) (lor (hp 6 (by kernel_rfl))) trivial
      obtain ⟨g, hg, _, hh⟩ := hq0
      try simp only at hg
      rw [hg] at t24
      go_simp
      refine (HCC.out wX g hJ.below hh).mono ?_
      rintro e wA ⟨v7, rfl, ho7, hg7⟩
      exact hK _ _ (hJ.step HOK 7 _ hl (by kernel_rfl) trivial none (grown_below hg7) (.inl rfl) (new_one (by kernel_rfl) ⟨1, 7, 7, some 8, [], fun V w => OwnP w wB.heap.size (V 7) (rotP P i)⟩ (List.mem_of_getElem? (i := 1) rfl) rfl ⟨(fun j hj => by rcases hj with rfl | hj; exact .inl rfl; cases hj), by (try simp only); rw [upd_at]; exact ho7.base hJ.below.size, fun g hg => .inl (by rw [upd_at, ho7.any] at hg; exact (ho7.lt g hg).1)⟩))
    case o4_8 =>
      intro LX V aX wX K hl hp hcl hf hJ hK
      have t25 := hf.in (i := 7) (d := 25) (by kernel_rfl) (hp 7 (by kernel_rfl)) rfl
      rw [if_pos (by rfl)]
      have hq0 := hJ.at ⟨1, 7, 7, some 8, [], fun V w => OwnP w wB.heap.size (V 7) (rotP P i)⟩ (List.mem_of_getElem? (i := 1) rfl) (lor (hp 7 (by kernel_rfl))) hl
      go_simp
      exact hK _ _ (hJ.step HOK 8 _ hl (by kernel_rfl) trivial (ownAny (V 7)) ⟨rfl, rfl, rfl, Nat.le_refl _, fun _ _ _ => rfl⟩ (.inr ⟨⟨1, 7, 7, some 8, [], fun V w => OwnP w wB.heap.size (V 7) (rotP P i)⟩, List.mem_of_getElem? (i := 1) rfl, rfl, lor (hp 7 (by kernel_rfl)), rfl⟩) (new_one (by kernel_rfl) ⟨2, 8, 8, none, [], fun V w => OwnP w wB.heap.size (V 8) (rotP P i)⟩ (List.mem_of_getElem? (i := 2) rfl) rfl ⟨(fun j hj => by rcases hj with rfl | hj; exact .inl rfl; cases hj), by (try simp only); rw [upd_at]; exact hq0, fun g hg => .inr (by rw [upd_at] at hg; exact hg.symm ▸ rfl)⟩))
  intro V wZ hJ
  have hq := hJ.at ⟨2, 8, 8, none, [], fun V w => OwnP w wB.heap.size (V 8) (rotP P i)⟩ (List.mem_of_getElem? (i := 2) rfl) (by kernel_rfl) trivial
  have HQ := Lib.hid (And.intro hq hJ.below)
  simp only [puts, Act.put, List.setIfInBounds_toArray, List.set_cons_zero, List.set_cons_succ]
  clear hJ hq HOK
  go_wp2_with fail
  go_ret
  exact ⟨_, rfl, HQ.out.1, HQ.out.2⟩
set_option maxRecDepth 100000 in
set_option maxHeartbeats 1000000 in
theorem Normal_any (ao : Option Addr) (n cap : Nat) (P : List Pt) (w : World) (h : IsPts w ao n cap P) (hok : (ringCheckP P).1 = 0) :
    Calls Tryz.prog 31 #[.slice ao n cap] w fun e w' => ∃ v, e = .returned (.tuple #[v, .bool true]) ∧ OwnP w' w.heap.size v (normQ P) ∧ Below w.heap.size w w' := by
  have h3 := ring_ok hok
  rw [h.1] at h3
  obtain ⟨h3, h200, _⟩ := h3
  have HI := Lib.hid h
  have HL : Hid (P.length = n) := h.1
  obtain ⟨b, off, rfl, _, _⟩ := h.at (show 0 < n by omega)
  have HSG := Lib.hid (Sign_any _ n cap P w h)
  have hsc := sign_cases hok
  have hnq : normQ P = if signP P = -1 then leadP P.reverse else leadP P := by
    unfold normQ normP
    rw [if_neg (sign_ne hok)]
    split <;> rfl
  clear h
  rcases hsc with hs | hs
  · rw [hs] at HSG
    rw [hs, if_neg (by decide)] at hnq
    have HNQ := Lib.hid hnq
    clear hs hnq
    go_enter Tryz.func31, Tryz.ntmps31
    go_wp2_with fail
    refine HSG.out.mono ?_
    rintro e w1 ⟨rfl, hb1⟩
    have HB1 := Lib.hid hb1
    have HLE := Lib.hid (least_any _ n cap P w1 (HI.out.later hb1 (Nat.le_refl _)))
    clear hb1
    go_wp2_with fail
    refine HLE.out.mono ?_
    rintro e w2 ⟨rfl, hb2⟩
    have HB2 := Lib.hid (HB1.out.trans (hb2.mono HB1.out.size))
    have HFR := Lib.hid (From_any _ n cap P (leastP P) w2 (HI.out.later HB2.out (Nat.le_refl _)) (by have := leastP_lt (l := P) (by rw [HL.out]; omega); rw [HL.out] at this; exact this) (by omega))
    clear hb2
    go_wp2_with fail
    refine HFR.out.mono ?_
    rintro e w3 ⟨v, rfl, ho, hb3⟩
    have H3 := Lib.hid (And.intro ho hb3)
    clear ho hb3
    go_wp2_with fail
    go_ret2
    refine ⟨_, rfl, ?_, HB2.out.trans (H3.out.2.mono HB2.out.size)⟩
    rw [HNQ.out]
    exact H3.out.1.base HB2.out.size
  · rw [hs] at HSG
    rw [hs, if_pos rfl] at hnq
    have HNQ := Lib.hid hnq
    clear hs hnq
    go_enter Tryz.func31, Tryz.ntmps31
    go_wp2_with fail
    refine HSG.out.mono ?_
    rintro e w1 ⟨rfl, hb1⟩
    have HB1 := Lib.hid hb1
    have HTU := Lib.hid (Turned_own _ n cap P w1 (HI.out.later hb1 (Nat.le_refl _)) (by omega))
    clear hb1
    go_wp2_with fail
    refine HTU.out.mono ?_
    rintro e w1b ⟨v1, rfl, ho1, hb1b⟩
    have HB1b := Lib.hid (HB1.out.trans (hb1b.mono HB1.out.size))
    obtain ⟨a1, c1, hv1, hp1⟩ := ho1.pts
    have hrl : P.reverse.length = n := by rw [List.length_reverse, HL.out]
    rw [hrl] at hv1 hp1
    subst hv1
    have HP1 := Lib.hid hp1
    have HRL := Lib.hid hrl
    have HLE := Lib.hid (least_any _ n c1 P.reverse w1b hp1)
    clear ho1 hb1b hp1 hrl
    go_wp2_with fail
    refine HLE.out.mono ?_
    rintro e w2 ⟨rfl, hb2⟩
    have HB2 := Lib.hid (HB1b.out.trans (hb2.mono HB1b.out.size))
    have HFR := Lib.hid (From_any _ n c1 P.reverse (leastP P.reverse) w2 (HP1.out.later hb2 (Nat.le_refl _)) (by have := leastP_lt (l := P.reverse) (by rw [HRL.out]; omega); rw [HRL.out] at this; exact this) (by omega))
    clear hb2
    go_wp2_with fail
    refine HFR.out.mono ?_
    rintro e w3 ⟨v, rfl, ho, hb3⟩
    have H3 := Lib.hid (And.intro ho hb3)
    clear ho hb3
    go_wp2_with fail
    go_ret2
    refine ⟨_, rfl, ?_, HB2.out.trans (H3.out.2.mono HB2.out.size)⟩
    rw [HNQ.out]
    exact H3.out.1.base HB2.out.size
end Go.Proofs.YtgijaaklhdcgeaaGreat

/- slices.CompareFunc of points, region.normal$1; slices.Equal of points, region.Same$1, slices.EqualFunc of rings -/
set_option linter.unusedSimpArgs false
set_option linter.unusedVariables false
namespace Go.Proofs.YtgijaaklhdcgeaaGreat
open Go.RowKit Go.Geo
attribute [local go_sem] Oper.semAt_some
theorem drop_at {P : List Pt} {k : Nat} (h : k < P.length) : P.drop k = P.getD k p0 :: P.drop (k + 1) := by
  rw [List.drop_eq_getElem_cons h, List.getD_eq_getElem?_getD, List.getElem?_eq_getElem h]; rfl
theorem enters_cmp : ∀ args w, (callFunc 35 args).run Tryz.prog w = .ok (.enter 35 args) w := enters_of Tryz.func35 (by kernel_rfl) rfl
set_option maxRecDepth 100000 in
set_option maxHeartbeats 2000000 in
theorem CompareFunc_any (ao : Option Addr) (n cap : Nat) (P : List Pt) (bo : Option Addr) (m cap2 : Nat) (Q : List Pt) (w : World) (h : IsPts w ao n cap P) (h2 : IsPts w bo m cap2 Q) :
    Calls Tryz.prog 34 #[.slice ao n cap, .slice bo m cap2, .func (.func 35) #[] #[]] w fun e w' => e = .returned (.int .i64 (cmpL P Q)) ∧ Grew w w' := by
  have HI := Lib.hid h
  have HJ := Lib.hid h2
  have HL : Hid (P.length = n) := h.1
  have HL2 : Hid (Q.length = m) := h2.1
  have hcm := h.2.2.1
  have hnc := h.2.1
  have hcm2 := h2.2.2.1
  have hnc2 := h2.2.1
  unfold maxLen at hcm hcm2
  obtain ⟨r, hr⟩ : ∃ r, r = cmpL P Q := ⟨_, rfl⟩
  rw [← hr]
  have HR := Lib.hid hr
  have hen := enters_cmp
  clear h h2 hr
  go_enter Tryz.func34, Tryz.ntmps34
  go_wp2_with fail
  go_loopw [13] (fun i wr => ∃ k : Nat, k ≤ n ∧ k ≤ m ∧ i = .int .i64 k ∧ Hid (cmpL P Q = cmpL (P.drop k) (Q.drop k)) ∧ Hid (Grew w wr)) (fun i _ => n - (intOf i).toNat)
  case atStart => exact ⟨0, by omega, by omega, rfl, Lib.hid rfl, Grew.refl _⟩
  case round =>
    obtain ⟨k, hk, hkm, rfl, hc, hg⟩ := hrel
    by_cases hlt : k < n
    · have k0 : (0 : Int) ≤ (k : Int) := by omega
      have k5 : (k : Int) < (n : Int) := by omega
      obtain ⟨b, off, rfl, e0, e1⟩ := (HI.out.grew hg.out).at hlt
      obtain ⟨x, hx⟩ : ∃ x, x = P.getD k p0 := ⟨_, rfl⟩
      rw [← hx] at e0 e1
      have HX : Hid (P.drop k = x :: P.drop (k + 1)) := Lib.hid (by rw [hx]; exact drop_at (by rw [HL.out]; exact hlt))
      clear hx
      by_cases hlt2 : k < m
      · have k6 : (k : Int) < (m : Int) := by omega
        have k7 : ¬ (m : Int) ≤ (k : Int) := by omega
        obtain ⟨b2, off2, rfl, f0, f1⟩ := (HJ.out.grew hg.out).at hlt2
        obtain ⟨y, hy⟩ : ∃ x, x = Q.getD k p0 := ⟨_, rfl⟩
        rw [← hy] at f0 f1
        have HY : Hid (Q.drop k = y :: Q.drop (k + 1)) := Lib.hid (by rw [hy]; exact drop_at (by rw [HL2.out]; exact hlt2))
        have HCM := Lib.hid (Compare_any x y)
        obtain ⟨c, hcc⟩ : ∃ c, c = compP x y := ⟨_, rfl⟩
        rw [← hcc] at HCM
        have HCC : Hid (cmpL P Q = if c ≠ 0 then c else cmpL (P.drop (k + 1)) (Q.drop (k + 1))) := Lib.hid (by rw [hc.out, HX.out, HY.out, cmpL, hcc])
        unfold ptV at HCM
        clear hy hcc
        have g0 : (wr.alloc (.cells #[.int .i64 x.x, .int .i64 x.y] 40)).cell? ⟨b2, off2 + k * 2, none⟩ = some (.int .i64 y.x) := ((Grew.refl _).alloc _).cell f0
        have g1 : (wr.alloc (.cells #[.int .i64 x.x, .int .i64 x.y] 40)).cell? ⟨b2, off2 + k * 2 + 1, none⟩ = some (.int .i64 y.y) := ((Grew.refl _).alloc _).cell f1
        have q0 : ((wr.alloc (.cells #[.int .i64 x.x, .int .i64 x.y] 40)).alloc (.cells #[.int .i64 y.x, .int .i64 y.y] 40)).cell? ⟨wr.heap.size, 0, none⟩ = some (.int .i64 x.x) := ((Grew.refl _).alloc _).cell (cell_of_row _ _ _ _ _ _ (alloc_new _ _))
        have q1 : ((wr.alloc (.cells #[.int .i64 x.x, .int .i64 x.y] 40)).alloc (.cells #[.int .i64 y.x, .int .i64 y.y] 40)).cell? ⟨wr.heap.size, 1, none⟩ = some (.int .i64 x.y) := ((Grew.refl _).alloc _).cell (cell_of_row _ _ _ _ _ _ (alloc_new _ _))
        have q2 : ((wr.alloc (.cells #[.int .i64 x.x, .int .i64 x.y] 40)).alloc (.cells #[.int .i64 y.x, .int .i64 y.y] 40)).cell? ⟨wr.heap.size + 1, 0, none⟩ = some (.int .i64 y.x) := cell_of_row _ _ _ _ _ _ (alloc_new2 _ _ _)
        have q3 : ((wr.alloc (.cells #[.int .i64 x.x, .int .i64 x.y] 40)).alloc (.cells #[.int .i64 y.x, .int .i64 y.y] 40)).cell? ⟨wr.heap.size + 1, 1, none⟩ = some (.int .i64 y.y) := cell_of_row _ _ _ _ _ _ (alloc_new2 _ _ _)
        by_cases hz : c = 0
        · subst hz
          go_wp2_with fail
          refine (HCM.out _).mono ?_
          rintro e w2 ⟨rfl, hg2⟩
          have HG2 := Lib.hid (((hg.out.alloc _).alloc _).trans hg2)
          clear hg2 e0 e1 f0 f1 g0 g1 q0 q1 q2 q3
          go_wp2_with fail
          go_roundw
          case rel => exact ⟨k + 1, by omega, by omega, by go_num, Lib.hid (by rw [HCC.out]; simp), HG2⟩
          case measure => simp [intOf]; omega
        · have hz1 : (c == 0) = false := by simp [hz]
          have hz2 : (c != 0) = true := by simp [hz]
          have HZ := Lib.hid hz
          clear hz
          go_wp2_with fail
          refine (HCM.out _).mono ?_
          rintro e w2 ⟨rfl, hg2⟩
          have HG2 := Lib.hid (((hg.out.alloc _).alloc _).trans hg2)
          clear hg2 e0 e1 f0 f1 g0 g1 q0 q1 q2 q3
          go_wp2_with fail
          go_ret
          exact ⟨by rw [HR.out, HCC.out, if_pos HZ.out]; rfl, HG2.out⟩
      · have k7 : (m : Int) ≤ (k : Int) := by omega
        have hmk : k = m := by omega
        have HQ : Hid (Q.drop k = []) := Lib.hid (List.drop_eq_nil_of_le (by rw [HL2.out]; omega))
        clear hmk
        go_wp2_with fail
        go_ret
        exact ⟨by rw [HR.out, hc.out, HX.out, HQ.out]; rfl, hg.out.alloc _⟩
    · have hkn : n = k := by omega
      subst hkn
      have HP : Hid (P.drop n = []) := Lib.hid (List.drop_eq_nil_of_le (by rw [HL.out]; omega))
      by_cases hlt2 : n < m
      · have k6 : (n : Int) < (m : Int) := by omega
        have HY : Hid (Q.drop n = Q.getD n p0 :: Q.drop (n + 1)) := Lib.hid (drop_at (by rw [HL2.out]; exact hlt2))
        go_wp2_with fail
        go_ret
        exact ⟨by rw [HR.out, hc.out, HP.out, HY.out]; rfl, hg.out⟩
      · have k6 : ¬ (n : Int) < (m : Int) := by omega
        have HQ : Hid (Q.drop n = []) := Lib.hid (List.drop_eq_nil_of_le (by rw [HL2.out]; omega))
        go_wp2_with fail
        go_ret
        exact ⟨by rw [HR.out, hc.out, HP.out, HQ.out]; rfl, hg.out⟩
set_option maxRecDepth 100000 in
theorem normal1_any (ao : Option Addr) (n cap : Nat) (P : List Pt) (bo : Option Addr) (m cap2 : Nat) (Q : List Pt) (w : World) (h : IsPts w ao n cap P) (h2 : IsPts w bo m cap2 Q) :
    Calls Tryz.prog 33 #[.slice ao n cap, .slice bo m cap2] w fun e w' => e = .returned (.int .i64 (cmpL P Q)) ∧ Grew w w' := by
  have HC := Lib.hid (CompareFunc_any ao n cap P bo m cap2 Q w h h2)
  obtain ⟨r, hr⟩ : ∃ r, r = cmpL P Q := ⟨_, rfl⟩
  rw [← hr] at HC ⊢
  clear h h2 hr
  go_enter Tryz.func33, Tryz.ntmps33
  go_wp2_with fail
  refine HC.out.mono ?_
  rintro e w2 ⟨rfl, hg2⟩
  have HG := Lib.hid hg2
  clear hg2
  go_wp2_with fail
  go_ret
  exact ⟨rfl, HG.out⟩
theorem eq_take {P Q : List Pt} (h : P.length = Q.length) (hq : ∀ t, t < P.length → P.getD t p0 = Q.getD t p0) : P = Q := by
  apply List.ext_getElem h
  intro i h1 h2
  have := hq i h1
  rwa [List.getD_eq_getElem?_getD, List.getElem?_eq_getElem h1, List.getD_eq_getElem?_getD, List.getElem?_eq_getElem h2] at this
set_option maxRecDepth 100000 in
set_option maxHeartbeats 2000000 in
theorem EqualPts_any (ao : Option Addr) (n cap : Nat) (P : List Pt) (bo : Option Addr) (m cap2 : Nat) (Q : List Pt) (w : World) (h : IsPts w ao n cap P) (h2 : IsPts w bo m cap2 Q) :
    Calls Tryz.prog 16 #[.slice ao n cap, .slice bo m cap2] w fun e w' => e = .returned (.bool (decide (P = Q))) ∧ Grew w w' := by
  have HI := Lib.hid h
  have HJ := Lib.hid h2
  have HL : Hid (P.length = n) := h.1
  have HL2 : Hid (Q.length = m) := h2.1
  have hcm := h.2.2.1
  have hnc := h.2.1
  have hcm2 := h2.2.2.1
  have hnc2 := h2.2.1
  unfold maxLen at hcm hcm2
  obtain ⟨r, hr⟩ : ∃ r, r = decide (P = Q) := ⟨_, rfl⟩
  rw [← hr]
  have HR := Lib.hid hr
  clear h h2 hr
  by_cases hnm : n = m
  · subst hnm
    go_enter Tryz.func16, Tryz.ntmps16
    go_wp2_with fail
    go_loopw [13] (fun i wr => ∃ k : Nat, k ≤ n ∧ i = .int .i64 k ∧ Hid (∀ t, t < k → P.getD t p0 = Q.getD t p0) ∧ Hid (Grew w wr)) (fun i _ => n - (intOf i).toNat)
    case atStart => exact ⟨0, by omega, rfl, Lib.hid (fun t ht => absurd ht (by omega)), Grew.refl _⟩
    case round =>
      obtain ⟨k, hk, rfl, hc, hg⟩ := hrel
      by_cases hlt : k < n
      · have k0 : (0 : Int) ≤ (k : Int) := by omega
        have k5 : (k : Int) < (n : Int) := by omega
        obtain ⟨b, off, rfl, e0, e1⟩ := (HI.out.grew hg.out).at hlt
        obtain ⟨b2, off2, rfl, f0, f1⟩ := (HJ.out.grew hg.out).at hlt
        obtain ⟨x, hx⟩ : ∃ x, x = P.getD k p0 := ⟨_, rfl⟩
        obtain ⟨y, hy⟩ : ∃ x, x = Q.getD k p0 := ⟨_, rfl⟩
        rw [← hx] at e0 e1
        rw [← hy] at f0 f1
        have HXY := Lib.hid (And.intro hx hy)
        have hne := run_ne_pt x y
        clear hx hy
        by_cases hq : x = y
        · have hd : decide (x = y) = true := decide_eq_true hq
          rw [hd] at hne
          have HQ := Lib.hid hq
          clear hd hq
          go_wp2_with fail
          go_quiet (fail)
          go_wp2_with fail
          go_roundw
          case rel =>
            refine ⟨k + 1, by omega, by go_num, Lib.hid (fun t ht => ?_), Lib.hid (hg.out.drewN _)⟩
            by_cases htk : t < k
            · exact hc.out t htk
            · obtain rfl : t = k := by omega
              rw [← HXY.out.1, ← HXY.out.2, HQ.out]
          case measure => simp [intOf]; omega
        · have hd : decide (x = y) = false := decide_eq_false hq
          rw [hd] at hne
          have HQ := Lib.hid hq
          clear hd hq
          go_wp2_with fail
          go_quiet (fail)
          go_wp2_with fail
          go_ret
          refine ⟨?_, hg.out.drewN _⟩
          rw [HR.out, decide_eq_false (fun e => HQ.out (by rw [HXY.out.1, HXY.out.2, e]))]
          rfl
      · have hkn : n = k := by omega
        subst hkn
        have HE : Hid (P = Q) := Lib.hid (eq_take (by rw [HL.out, HL2.out]) (by rw [HL.out]; exact hc.out))
        go_wp2_with fail
        go_ret
        exact ⟨by rw [HR.out, decide_eq_true HE.out]; rfl, hg.out⟩
  · have h1 : ((n : Int) == (m : Int)) = false := by simp; omega
    have h2 : ((n : Int) != (m : Int)) = true := by simp; omega
    have HN := Lib.hid hnm
    clear hnm
    go_enter Tryz.func16, Tryz.ntmps16
    go_wp2_with fail
    go_ret
    refine ⟨?_, Grew.refl _⟩
    rw [HR.out, decide_eq_false (fun e => HN.out (by rw [← HL.out, ← HL2.out, e]))]
    rfl
set_option maxRecDepth 100000 in
theorem same1_any (ao : Option Addr) (n cap : Nat) (P : List Pt) (bo : Option Addr) (m cap2 : Nat) (Q : List Pt) (w : World) (h : IsPts w ao n cap P) (h2 : IsPts w bo m cap2 Q) :
    Calls Tryz.prog 15 #[.slice ao n cap, .slice bo m cap2] w fun e w' => e = .returned (.bool (decide (P = Q))) ∧ Grew w w' := by
  have HC := Lib.hid (EqualPts_any ao n cap P bo m cap2 Q w h h2)
  obtain ⟨r, hr⟩ : ∃ r, r = decide (P = Q) := ⟨_, rfl⟩
  rw [← hr] at HC ⊢
  clear h h2 hr
  go_enter Tryz.func15, Tryz.ntmps15
  go_wp2_with fail
  refine HC.out.mono ?_
  rintro e w2 ⟨rfl, hg2⟩
  have HG := Lib.hid hg2
  clear hg2
  go_wp2_with fail
  go_ret
  exact ⟨rfl, HG.out⟩
theorem eqR_take {P Q : List (List Pt)} (h : P.length = Q.length) (hq : ∀ t, t < P.length → P.getD t [] = Q.getD t []) : P = Q := by
  apply List.ext_getElem h
  intro i h1 h2
  have := hq i h1
  rwa [List.getD_eq_getElem?_getD, List.getElem?_eq_getElem h1, List.getD_eq_getElem?_getD, List.getElem?_eq_getElem h2] at this
set_option maxRecDepth 100000 in
set_option maxHeartbeats 2000000 in
theorem EqualFunc_any (ao : Option Addr) (n cap : Nat) (P : List (List Pt)) (bo : Option Addr) (m cap2 : Nat) (Q : List (List Pt)) (w : World) (h : IsRings w ao n cap P) (h2 : IsRings w bo m cap2 Q) :
    Calls Tryz.prog 13 #[.slice ao n cap, .slice bo m cap2, .func (.func 15) #[] #[]] w fun e w' => e = .returned (.bool (decide (P = Q))) ∧ Grew w w' := by
  have HI := Lib.hid h
  have HJ := Lib.hid h2
  have HL : Hid (P.length = n) := h.1
  have HL2 : Hid (Q.length = m) := h2.1
  have hcm := h.2.2.1
  have hnc := h.2.1
  have hcm2 := h2.2.2.1
  have hnc2 := h2.2.1
  unfold maxLen at hcm hcm2
  obtain ⟨r, hr⟩ : ∃ r, r = decide (P = Q) := ⟨_, rfl⟩
  rw [← hr]
  have HR := Lib.hid hr
  have hen : ∀ args w, (callFunc 15 args).run Tryz.prog w = .ok (.enter 15 args) w := enters_of Tryz.func15 (by kernel_rfl) rfl
  clear h h2 hr
  by_cases hnm : n = m
  · subst hnm
    go_enter Tryz.func13, Tryz.ntmps13
    go_wp2_with fail
    go_loopw [17] (fun i wr => ∃ k : Nat, k ≤ n ∧ i = .int .i64 k ∧ Hid (∀ t, t < k → P.getD t [] = Q.getD t []) ∧ Hid (Grew w wr)) (fun i _ => n - (intOf i).toNat)
    case atStart => exact ⟨0, by omega, rfl, Lib.hid (fun t ht => absurd ht (by omega)), Grew.refl _⟩
    case round =>
      obtain ⟨k, hk, rfl, hc, hg⟩ := hrel
      by_cases hlt : k < n
      · have k0 : (0 : Int) ≤ (k : Int) := by omega
        have k5 : (k : Int) < (n : Int) := by omega
        obtain ⟨b, off, x, y, z, rfl, e0, hp⟩ := (HI.out.grew hg.out).2.2.2.2 k hlt
        obtain ⟨b2, off2, x2, y2, z2, rfl, f0, hp2⟩ := (HJ.out.grew hg.out).2.2.2.2 k hlt
        have HS := Lib.hid (same1_any x y z _ x2 y2 z2 _ wr hp hp2)
        obtain ⟨v, hv⟩ : ∃ v, v = decide (P.getD k [] = Q.getD k []) := ⟨_, rfl⟩
        rw [← hv] at HS
        have HV := Lib.hid hv
        clear hv hp hp2
        cases v with
        | true =>
          go_wp2_with fail
          refine HS.out.mono ?_
          rintro e w2 ⟨rfl, hg2⟩
          have HG2 := Lib.hid (hg.out.trans hg2)
          clear hg2 e0 f0
          go_wp2_with fail
          go_roundw
          case rel =>
            refine ⟨k + 1, by omega, by go_num, Lib.hid (fun t ht => ?_), HG2⟩
            by_cases htk : t < k
            · exact hc.out t htk
            · obtain rfl : t = k := by omega
              exact of_decide_eq_true HV.out.symm
          case measure => simp [intOf]; omega
        | false =>
          go_wp2_with fail
          refine HS.out.mono ?_
          rintro e w2 ⟨rfl, hg2⟩
          have HG2 := Lib.hid (hg.out.trans hg2)
          clear hg2 e0 f0
          go_wp2_with fail
          go_ret
          refine ⟨?_, HG2.out⟩
          rw [HR.out, decide_eq_false (fun e => of_decide_eq_false HV.out.symm (by rw [e]))]
          rfl
      · have hkn : n = k := by omega
        subst hkn
        have HE : Hid (P = Q) := Lib.hid (eqR_take (by rw [HL.out, HL2.out]) (by rw [HL.out]; exact hc.out))
        go_wp2_with fail
        go_ret
        exact ⟨by rw [HR.out, decide_eq_true HE.out]; rfl, hg.out⟩
  · have h1 : ((n : Int) == (m : Int)) = false := by simp; omega
    have h2 : ((n : Int) != (m : Int)) = true := by simp; omega
    have HN := Lib.hid hnm
    clear hnm
    go_enter Tryz.func13, Tryz.ntmps13
    go_wp2_with fail
    go_ret
    refine ⟨?_, Grew.refl _⟩
    rw [HR.out, decide_eq_false (fun e => HN.out (by rw [← HL.out, ← HL2.out, e]))]
    rfl
end Go.Proofs.YtgijaaklhdcgeaaGreat
