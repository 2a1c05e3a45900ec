/- inside.pairs: each point and the one ahead of it -/
import Derived.Test.YtjiiikeniocmfaaGreatMQRing1
import Derived.Test.YtjiiikeniocmfaaGreatMR7b
set_option linter.unusedSimpArgs false
set_option linter.unusedVariables false
namespace Go.Proofs.YtjiiikeniocmfaaGreat
open Go.RowKit Go.Shelf Go.Geo
attribute [local go_sem] Oper.semAt_some
/-- the point ahead of the k-th, round the list. -/
def prevP (P : List Pt) (k : Nat) : Pt := if k = 0 then P.getD (P.length - 1) p0 else P.getD (k - 1) p0
theorem prevP_succ (P : List Pt) (k : Nat) : prevP P (k + 1) = P.getD k p0 := by unfold prevP; rw [if_neg (by omega)]; rfl
def pairsL (P : List Pt) : List (Pt × Pt) := (List.range P.length).map fun k => (prevP P k, P.getD k p0)
theorem pairsL_length (P : List Pt) : (pairsL P).length = P.length := by simp [pairsL]
theorem pairsL_take {P : List Pt} {k : Nat} (h : k < P.length) : (pairsL P).take (k + 1) = (pairsL P).take k ++ [(prevP P k, P.getD k p0)] := by
  rw [List.take_succ_eq_append_getElem (by rw [pairsL_length]; exact h)]
  simp [pairsL]
def encP (x : Pt × Pt) : Array Value := #[ptV x.1, ptV x.2]
/-- blocks below n0 stay, and all points. -/
def KpP (n0 : Nat) (W W' : World) : Prop := Below n0 W W' ∧ ∀ (j : Nat) (c : Array Value), W.heap[j]? = some (.cells c 24 (0, 0)) → W'.heap[j]? = some (.cells c 24 (0, 0))
theorem KpP.trans {n0 : Nat} {A B C : World} (h : KpP n0 A B) (k : KpP n0 B C) : KpP n0 A C := ⟨h.1.trans k.1, fun j c hj => k.2 j c (h.2 j c hj)⟩
theorem KpP.putObj {n0 : Nat} {w : World} (hn : n0 ≤ w.heap.size) (W : World) (l : Nat) (o o' : Obj) (hl : w.heap.size ≤ l) (h : W.heap[l]? = some o) (hc : o.isCells = false) : KpP n0 W (W.putObj l o') :=
  ⟨(Below.refl n0 W).grown (grownBy_putObj' W l o') (by have := (Array.getElem?_eq_some_iff.1 h).1; omega) (fun k e => by cases e; omega),
   fun j c hj => (World.putObj_heap_other (fun e => by subst e; rw [h] at hj; cases hj; cases hc)).trans hj⟩
theorem KpP.grew {n0 : Nat} {W W' : World} (h : Below W.heap.size W W') (hn : n0 ≤ W.heap.size) : KpP n0 W W' := ⟨h.mono hn, fun j c hj => (h.block j (Array.getElem?_eq_some_iff.1 hj).1).trans hj⟩
theorem own_put {B g : Nat} {W : World} {c : Array Value} (h : W.heap[g]? = some (.cells c 24 (0, 0))) (hB : B ≤ g) (o : Nat) (v : Value) : OwnStep B W (W.setCell ⟨g, o, none⟩ v) :=
  ⟨some g, ⟨rfl, rfl, rfl, by simp, fun k hk hne => Below.heap_setCell _ _ _ _ (fun e => hne (by rw [e]))⟩, fun r e => by cases e; exact ⟨hB, c, h⟩⟩
theorem pairs_any (ao : Option Addr) (n cap : Nat) (w : World) :
    Calls Tryz.prog 61 #[.slice ao n cap] w fun e w' => e = .returned (.func (.func 97) #[] #[.pointer (some ⟨w.heap.size, 0, none⟩)]) ∧ w.alloc (.cells #[.slice ao n cap] 40) = w' := by
  go_enter Tryz.func61, Tryz.ntmps61
  go_wp2
  go_ret
  exact ⟨rfl, rfl⟩
set_option maxRecDepth 100000 in
set_option maxHeartbeats 2000000 in
theorem pairs_gives (m Bn n0 : Nat) (ao : Option Addr) (n cap : Nat) (P : List Pt) (w : World) (hm : 1 ≤ m) (hBn : Bn < w.heap.size) (hn0 : n0 ≤ w.heap.size) (hc : w.cell? ⟨Bn, 0, none⟩ = some (.slice ao n cap)) (hP : ∀ A, Below n0 w A → IsPts A ao n cap P) :
    Gives m 97 #[.pointer (some ⟨Bn, 0, none⟩)] encP (KpP n0) (pairsL P) w := by
  intro l J W hW hJ hY h0
  have hP0 := hP w (Below.refl _ _)
  have HL : Hid (P.length = n) := hP0.1
  have hcm := hP0.2.2.1
  have hnc := hP0.2.1
  unfold maxLen at hcm
  have hcW : W.cell? ⟨Bn, 0, none⟩ = some (.slice ao n cap) := (hW.cell (p := ⟨Bn, 0, none⟩) hBn).trans hc
  have HP : Hid (∀ A, Below n0 W A → IsPts A ao n cap P) := Lib.hid (fun A hA => hP A ((hW.mono hn0).trans hA))
  have HN0 : Hid (n0 ≤ W.heap.size) := Lib.hid (Nat.le_trans hn0 hW.size)
  have HJ := Lib.hid hJ
  have HY := Lib.hid hY
  have H0 := Lib.hid h0
  clear hP0 hP hW hc hBn hn0 hJ hY h0
  by_cases hz : n = 0
  · subst hz
    refine callsIn_of_wp Tryz.func97 rfl trivial ?_ rfl
    simp only [Tryz.ntmps97, List.size_toArray, List.length_cons, List.length_nil, Nat.reduceAdd, Nat.reduceSub, Array.replicate_succ, Array.replicate_zero, List.push_toArray, List.append_toArray, List.nil_append, List.cons_append]
    gi_wp2_with fail
    refine bodyPost_ret (results_none rfl _ _ _) rfl ?_
    refine ⟨⟨_, rfl⟩, ?_⟩
    have : pairsL P = [] := List.eq_nil_of_length_eq_zero (by rw [pairsL_length]; exact HL.out)
    rw [this]
    exact H0.out
  · have hz1 : ((n : Int) == 0) = false := by simp; omega
    have hi1 : (0 : Int) ≤ (n : Int) - 1 := by omega
    have hi2 : (n : Int) - 1 < (n : Int) := by omega
    have hwr : wrap64 ((n : Int) - 1) = ((n - 1 : Nat) : Int) := by unfold wrap64; omega
    have hi3 : (0 : Int) ≤ ((n - 1 : Nat) : Int) := by omega
    have hi4 : ((n - 1 : Nat) : Int) < (n : Int) := by omega
    obtain ⟨b, off, rfl, e0, e1⟩ := (HP.out W (Below.refl _ _)).at (k := n - 1) (by omega)
    obtain ⟨z, hz⟩ : ∃ z, z = P.getD (n - 1) p0 := ⟨_, rfl⟩
    rw [← hz] at e0 e1
    have HZ := Lib.hid hz
    have hnn : (n : Int) - 1 = ((n - 1 : Nat) : Int) := by omega
    clear hz
    have hcW2 : (W.alloc (.cells #[.int .i64 z.x, .int .i64 z.y] 24)).cell? ⟨Bn, 0, none⟩ = some (.slice (some ⟨b, off, none⟩) n cap) := ((Grew.refl _).alloc _).cell hcW
    refine callsIn_of_wp Tryz.func97 rfl trivial ?_ rfl
    simp only [Tryz.ntmps97, List.size_toArray, List.length_cons, List.length_nil, Nat.reduceAdd, Nat.reduceSub, Array.replicate_succ, Array.replicate_zero, List.push_toArray, List.append_toArray, List.nil_append, List.cons_append]
    gi_wp2_with fail
    clear hcW hcW2 e0 e1
    gi_loopw [17] (fun i wr => ∃ k : Nat, k ≤ n ∧ i = .int .i64 k ∧ Hid (J ((pairsL P).take k) wr) ∧ Hid (wr.heap[W.heap.size]? = some (.cells #[.int .i64 (prevP P k).x, .int .i64 (prevP P k).y] 24 (0, 0))) ∧ Hid (Below n0 W wr)) (fun i _ => n - (intOf i).toNat)
    case atStart =>
      refine ⟨0, by omega, rfl, ?_, ?_, (Below.refl _ _).alloc HN0.out _⟩
      · rw [List.take_zero]; exact HJ.out _ _ _ H0.out (OwnStep.alloc _ _ _)
      · have e : prevP P 0 = z := by unfold prevP; rw [if_pos rfl, HL.out]; exact HZ.out.symm
        rw [e]
        exact alloc_new _ _
    case round =>
      obtain ⟨k, hk, rfl, hj, hlast, hbl⟩ := hrel
      by_cases hlt : k < n
      · have hk0 : (0 : Int) ≤ (k : Int) := by omega
        have hk5 : (k : Int) < (n : Int) := by omega
        obtain ⟨b2, off2, hbo, e0, e1⟩ := (HP.out wr hbl.out).at hlt
        cases hbo
        obtain ⟨c, hc⟩ : ∃ c, c = P.getD k p0 := ⟨_, rfl⟩
        obtain ⟨d, hd⟩ : ∃ d, d = prevP P k := ⟨_, rfl⟩
        rw [← hc] at e0 e1
        rw [← hd] at hlast
        have HT : Hid ((pairsL P).take (k + 1) = (pairsL P).take k ++ [(d, c)]) := Lib.hid (by rw [hd, hc]; exact pairsL_take (by rw [HL.out]; exact hlt))
        have HC : Hid (prevP P (k + 1) = c) := Lib.hid (by rw [prevP_succ, hc])
        have hwl : W.heap.size < wr.heap.size := (Array.getElem?_eq_some_iff.1 hlast.out).1
        have hl2 : (wr.alloc (.cells #[.int .i64 c.x, .int .i64 c.y] 24)).heap[W.heap.size]? = some (.cells #[.int .i64 d.x, .int .i64 d.y] 24 (0, 0)) := (Below.heap_alloc _ _ _ hwl).trans hlast.out
        obtain ⟨l0, l1, _, _⟩ := pt_cells hl2
        have q0 : (wr.alloc (.cells #[.int .i64 c.x, .int .i64 c.y] 24)).cell? ⟨wr.heap.size, 0, none⟩ = some (.int .i64 c.x) := cell_of_row _ _ _ _ _ _ (alloc_new _ _)
        have q1 : (wr.alloc (.cells #[.int .i64 c.x, .int .i64 c.y] 24)).cell? ⟨wr.heap.size, 1, none⟩ = some (.int .i64 c.y) := cell_of_row _ _ _ _ _ _ (alloc_new _ _)
        obtain ⟨fn, tmps, assign, body, hy, hR⟩ := HY.out ((pairsL P).take k) (d, c) (wr.alloc (.cells #[.int .i64 c.x, .int .i64 c.y] 24)) (HJ.out _ _ _ hj.out (OwnStep.alloc _ _ _)) (by rw [List.length_take, pairsL_length, HL.out]; omega)
        have HR := Lib.hid hR
        have HH := Lib.hid (And.intro hl2 (And.intro (alloc_new wr (.cells #[.int .i64 c.x, .int .i64 c.y] 24)) (hbl.out.alloc (Nat.le_trans HN0.out (Nat.le_of_lt hwl)) (.cells #[.int .i64 c.x, .int .i64 c.y] 24))))
        have HWL := Lib.hid hwl
        unfold encP ptV at hy
        dsimp only at hy
        clear hR hc hd hl2 hwl
        gi_wp2_with fail
        refine HR.out.mono ?_
        rintro e W3 ⟨rfl, hj3, hk3⟩
        have hl3 := hk3.2 _ _ HH.out.1
        have hp3 := hk3.2 _ _ HH.out.2.1
        have HJ3 := Lib.hid (And.intro hj3 (HH.out.2.2.trans hk3.1))
        have HL3 := Lib.hid hl3
        obtain ⟨_, _, f0, f1⟩ := pt_cells hl3
        obtain ⟨l2, l3, _, _⟩ := pt_cells hl3
        obtain ⟨q2, q3, _, _⟩ := pt_cells hp3
        clear hj3 hk3 hl3 hp3 l0 l1 q0 q1
        gi_wp2_with fail
        go_roundw
        case rel =>
          have s1 := own_put (B := W.heap.size) HL3.out (Nat.le_refl _) 0 (.int .i64 c.x)
          have h1 := heap_setCell_same W3 W.heap.size 0 _ _ (.int .i64 c.x) HL3.out
          have s2 := own_put (B := W.heap.size) h1 (Nat.le_refl _) 1 (.int .i64 c.y)
          have h2 := heap_setCell_same _ W.heap.size 1 _ _ (.int .i64 c.y) h1
          refine ⟨k + 1, by omega, by go_num, ?_, ?_, ?_⟩
          · rw [HT.out]; exact HJ.out _ _ _ (HJ.out _ _ _ HJ3.out.1 s1) s2
          · rw [HC.out]; exact h2
          · exact Lib.hid ((HJ3.out.2.setCell (p := ⟨W.heap.size, 0, none⟩) HN0.out _).setCell (p := ⟨W.heap.size, 1, none⟩) HN0.out _)
        case measure => simp [intOf]; omega
      · obtain rfl : n = k := by omega
        gi_wp2_with fail
        go_end0
        refine ⟨⟨_, rfl⟩, ?_⟩
        have := hj.out
        rw [List.take_of_length_le (by rw [pairsL_length, HL.out]; exact Nat.le_refl _)] at this
        exact this
end Go.Proofs.YtjiiikeniocmfaaGreat

/- inside.In -/
set_option linter.unusedSimpArgs false
set_option linter.unusedVariables false
namespace Go.Proofs.YtjiiikeniocmfaaGreat
open Go.RowKit Go.Shelf Go.Geo
attribute [local go_sem] Oper.semAt_some
def xorL (p : Pt) (pre : List (Pt × Pt)) : Bool := pre.foldl (fun b x => b != countsP p x.1 x.2) false
theorem xorL_snoc (p : Pt) (pre : List (Pt × Pt)) (x : Pt × Pt) : xorL p (pre ++ [x]) = (xorL p pre != countsP p x.1 x.2) := by simp [xorL]
theorem xorL_pairs (p : Pt) (P : List Pt) : xorL p (pairsL P) = inP p P := by
  have key : ∀ k, k ≤ P.length → xorL p ((pairsL P).take k) = oddB (cntB k (fun i => countsP p (prevP P i) (P.getD i p0))) := by
    intro k
    induction k with
    | zero => intro _; rfl
    | succ k ih =>
      intro hk
      rw [pairsL_take (by omega), xorL_snoc, ih (by omega), cntB, oddB_add, oddB_ite]
  have h := key P.length (Nat.le_refl _)
  rw [List.take_of_length_le (by rw [pairsL_length]; exact Nat.le_refl _)] at h
  rw [h, inP_count]
  cases P with
  | nil => rfl
  | cons a m =>
    unfold countK
    rw [List.length_cons, cntB_front, cntB, oddB_add, oddB_add, oddB_ite, oddB_ite, Bool.xor_comm]
    congr 1
    · congr 1
      refine cntB_congr _ fun i hi => ?_
      rw [prevP_succ, atP_lt (by simp; omega)]
    · unfold prevP atP
      simp
/-- what In's loop keeps. -/
def InIQ (p : Pt) (w : World) (B0 : Nat) (pre : List (Pt × Pt)) (W : World) : Prop :=
  W.heap[B0 + 1]? = some (.cells #[.bool (xorL p pre)] 4 (0, 0)) ∧ W.heap[B0]? = some (.cells #[.int .i64 p.x, .int .i64 p.y] 24 (0, 0)) ∧ Below B0 w W ∧ B0 + 3 ≤ W.heap.size
theorem inI_ownQ {p : Pt} {w : World} {B0 B : Nat} (hB : B = B0 + 3) : OwnFrom B (InIQ p w B0) := by
  subst hB
  rintro pre W W' row ⟨h1, h2, h3, h4⟩ hg hr
  have hne : ∀ {j : Nat}, j < B0 + 3 → some j ≠ row := fun hj e => by have := (hr _ e.symm).1; omega
  exact ⟨(hg.block _ (by omega) (hne (by omega))).trans h1, (hg.block _ (by omega) (hne (by omega))).trans h2, h3.grown hg (by omega) (fun k hk => by have := (hr k hk).1; omega), Nat.le_trans h4 hg.size⟩
theorem inI_stepQ {p : Pt} {w : World} {B0 B : Nat} (hB : B = B0 + 3) (pre : List (Pt × Pt)) (W W' : World) (h : InIQ p w B0 pre W) (hs : OwnStep B W W') : InIQ p w B0 pre W' := by
  subst hB
  obtain ⟨h1, h2, h3, h4⟩ := h
  obtain ⟨row, hg, hr⟩ := hs
  have hne : ∀ {j : Nat}, j < B0 + 3 → some j ≠ row := fun hj e => by have := (hr _ e.symm).1; omega
  exact ⟨(hg.block _ (by omega) (hne (by omega))).trans h1, (hg.block _ (by omega) (hne (by omega))).trans h2, h3.grown hg (by omega) (fun k hk => by have := (hr k hk).1; omega), Nat.le_trans h4 hg.size⟩
theorem in_round {p : Pt} {w W w7 : World} {B B0 : Nat} {v r : Bool} {pre : List (Pt × Pt)} (hg : Grew W.drew w7) (h1 : W.heap[B0 + 1]? = some (.cells #[.bool v] 4 (0, 0))) (h2 : W.heap[B0]? = some (.cells #[.int .i64 p.x, .int .i64 p.y] 24 (0, 0))) (h3 : Below B0 w W) (h4 : B0 + 3 ≤ W.heap.size) (hr : xorL p pre = r) :
    KeepsFrom B W (w7.setCell ⟨B0 + 1, 0, none⟩ (.bool r)) ∧ KpP B0 W (w7.setCell ⟨B0 + 1, 0, none⟩ (.bool r)) ∧ InIQ p w B0 pre (w7.setCell ⟨B0 + 1, 0, none⟩ (.bool r)) := by
  have hb : Below W.heap.size W w7 := ⟨hg.1.os, hg.1.tape, hg.1.output, hg.1.size, hg.1.block⟩
  have k1 := (hb.block _ (by omega)).trans h1
  have k2 := (hb.block _ (by omega)).trans h2
  have hb2 : Below B0 W (w7.setCell ⟨B0 + 1, 0, none⟩ (.bool r)) := (hb.mono (by omega)).setCell (p := ⟨B0 + 1, 0, none⟩) (Nat.le_succ _) _
  refine ⟨⟨by simp; exact hb.size, fun k o _ hk ho => ?_⟩, ⟨hb2, fun j c hj => ?_⟩, ?_, ?_, h3.trans hb2, by simp; exact Nat.le_trans h4 hb.size⟩
  · exact (heap_other (fun e => by subst e; rw [h1] at hk; cases hk; cases ho)).trans ((hb.block _ (Array.getElem?_eq_some_iff.1 hk).1).trans hk)
  · exact (heap_other (fun e => by subst e; rw [h1] at hj; injection hj with hj; injection hj with _ h; exact absurd h (by decide))).trans ((hb.block _ (Array.getElem?_eq_some_iff.1 hj).1).trans hj)
  · rw [hr]; exact heap_setCell_same _ _ 0 _ _ _ k1
  · exact (heap_other (by omega)).trans k2
set_option maxRecDepth 100000 in
set_option maxHeartbeats 2000000 in
theorem In_ring (p : Pt) (ao : Option Addr) (n cap : Nat) (P : List Pt) (w : World) (h : IsPts w ao n cap P) :
    Calls Tryz.prog 40 #[ptV p, .slice ao n cap] w fun e w' => e = .returned (.bool (inP p P)) ∧ Below w.heap.size w w' := by
  have HI := Lib.hid h
  rw [← xorL_pairs]
  have HCT := Lib.hid (Counts_any p)
  obtain ⟨p, hp⟩ : ∃ q, q = p := ⟨_, rfl⟩
  subst hp
  obtain ⟨px, hpx⟩ : ∃ x, x = p.x := ⟨_, rfl⟩
  obtain ⟨py, hpy⟩ : ∃ x, x = p.y := ⟨_, rfl⟩
  clear h
  refine (callsIn_wide (n := 3)).1 ?_
  refine callsIn_of_wp_marks Tryz.func40 rfl trivial ?_ rfl
  simp only [Tryz.ntmps40, List.size_toArray, List.length_cons, List.length_nil, Nat.reduceAdd, Nat.reduceSub, Array.replicate_succ, Array.replicate_zero, List.push_toArray, List.append_toArray, List.nil_append, List.cons_append]
  unfold ptV
  gi_wp2_with fail
  refine ⟨trivial, ?_⟩
  refine (callsIn_wide.2 (pairs_any ao n cap _)).mono ?_
  rintro e w2 ⟨rfl, hw2⟩
  obtain ⟨B0, hB0⟩ : ∃ B, B = w.heap.size := ⟨_, rfl⟩
  have a0 : w2.heap[B0]? = some (.cells #[.int .i64 p.x, .int .i64 p.y] 24 (0, 0)) := by rw [← hw2, hB0]; exact (Below.heap_alloc _ _ _ (by simp; omega)).trans ((Below.heap_alloc _ _ _ (by simp)).trans (alloc_new _ _))
  have a1 : w2.heap[B0 + 1]? = some (.cells #[.bool false] 4 (0, 0)) := by rw [← hw2, hB0]; exact (Below.heap_alloc _ _ _ (by simp)).trans (alloc_new2 _ _ _)
  have hsz : w2.heap.size = B0 + 3 := by rw [← hw2, hB0]; simp
  have hg2 : Grew w w2 := by rw [← hw2]; exact (((Grew.refl _).alloc _).alloc _).alloc _
  have a2 : w2.cell? ⟨B0 + 1 + 1, 0, none⟩ = some (.slice ao n cap) := by
    rw [← hw2, hB0]
    have := alloc_cell ((w.alloc (.cells #[.int .i64 p.x, .int .i64 p.y] 24)).alloc (.cells #[.bool false] 4)) (.slice ao n cap) 40
    simpa using this
  have H2 := Lib.hid (And.intro a0 (And.intro a1 (And.intro a2 (And.intro hsz (And.intro hg2 hB0)))))
  simp only [World.size_alloc, ← hB0]
  clear hw2 a0 a1 a2 hsz hg2
  gi_wp2_with fail
  have hb2 : Below B0 w w2 := by have := H2.out.2.2.2.2.1.1; rw [hB0]; exact this
  refine wp_gives (w := w2) (by omega) (gf := 97) (lb := #[.pointer (some ⟨B0 + 1 + 1, 0, none⟩)]) rfl (enters_of Tryz.func97 (by kernel_rfl) rfl)
    (pairs_gives (3 - 1) (B0 + 1 + 1) B0 ao n cap P w2 (by omega) (by rw [H2.out.2.2.2.1]; omega) (by rw [H2.out.2.2.2.1]; omega) H2.out.2.2.1 (fun A hA => HI.out.later (hb2.trans hA) (by rw [hB0]; exact Nat.le_refl _)))
    KpP.trans (fun W l o o' hl ho hc => KpP.putObj (by rw [H2.out.2.2.2.1]; omega) W l o o' hl ho hc) (fun _ => rfl)
    (InIQ p w B0) (inI_ownQ H2.out.2.2.2.1) (inI_stepQ H2.out.2.2.2.1) ⟨H2.out.2.1, H2.out.1, hb2, by rw [H2.out.2.2.2.1]; exact Nat.le_refl _⟩
    (fun x a' W => ∃ Bx, B0 + 3 ≤ Bx ∧ W.heap[Bx]? = some (.cells #[.int .i64 x.1.x, .int .i64 x.1.y] 24 (0, 0)) ∧ W.heap[Bx + 1]? = some (.cells #[.int .i64 x.2.x, .int .i64 x.2.y] 24 (0, 0)) ∧ a' = { tmps := #[.agg #[.int .i64 p.x, .int .i64 p.y], .slice ao n cap, .pointer (some ⟨w.heap.size, 0, none⟩), undef, .bool false, .pointer (some ⟨w.heap.size + 1, 0, none⟩), .pointer (some ⟨Bx, 0, none⟩), .pointer (some ⟨Bx + 1, 0, none⟩), .slice ao n cap, .func (.func 97) #[] #[.pointer (some ⟨w.heap.size + 1 + 1, 0, none⟩)], .agg #[.int .i64 x.1.x, .int .i64 x.1.y], .agg #[.int .i64 x.2.x, .int .i64 x.2.y], undef, undef, undef, undef, undef, undef, undef], defers := [] })
    (fun x a' _ X Y row hs hg hr => ?ax) ?assign ?body ?done
  case ax =>
    obtain ⟨Bx, h0, h1, h2, h3⟩ := hs
    have hne : ∀ {j : Nat} {c : Array Value} {t : TypeId} {fr : Nat × Nat}, X.heap[j]? = some (.cells c t fr) → some j ≠ row := fun hj e => by
      obtain ⟨_, o, ho, hc⟩ := hr _ e.symm
      rw [hj] at ho; cases ho; cases hc
    exact ⟨Bx, h0, (hg.block _ (Array.getElem?_eq_some_iff.1 h1).1 (hne h1)).trans h1, (hg.block _ (Array.getElem?_eq_some_iff.1 h2).1 (hne h2)).trans h2, h3⟩
  case assign =>
    intro l pre x W K hi hK
    dsimp only [encP, ptV]
    obtain ⟨h1, h2, h3, h4⟩ := hi
    have hal : Below W.heap.size W ((W.alloc (.cells #[.int .i64 x.1.x, .int .i64 x.1.y] 24)).alloc (.cells #[.int .i64 x.2.x, .int .i64 x.2.y] 24)) := ((Below.refl _ _).alloc (Nat.le_refl _) _).alloc (by simp) _
    have HA := Lib.hid (And.intro hal (And.intro h1 (And.intro h2 (And.intro h3 h4))))
    have HK := Lib.hid hK
    clear hal h1 h2 h3 h4 hK
    gi_wp2_with fail
    obtain ⟨hal, h1, h2, h3, h4⟩ := HA.out
    exact HK.out _ _ (((KeepsOthers.alloc _ _).trans (KeepsOthers.alloc _ _)).from _) (KpP.grew hal (by omega))
      ⟨(hal.block _ (by omega)).trans h1, (hal.block _ (by omega)).trans h2, h3.trans (hal.mono (by omega)), Nat.le_trans h4 hal.size⟩
      ⟨W.heap.size, h4, (Below.heap_alloc _ _ _ (by simp)).trans (alloc_new _ _), alloc_new2 _ _ _, rfl⟩
  case body =>
    rintro l pre x a' W ⟨h1, h2, h3, h4⟩ ⟨Bx, hBx, b1, b2, rfl⟩ hlt
    have HCX := Lib.hid (HCT.out x.1 x.2)
    obtain ⟨v, hv⟩ : ∃ v, v = xorL p pre := ⟨_, rfl⟩
    obtain ⟨q, hq⟩ : ∃ q, q = countsP p x.1 x.2 := ⟨_, rfl⟩
    rw [← hq] at HCX
    rw [← hv] at h1
    have HV : Hid (xorL p (pre ++ [x]) = (v != q)) := Lib.hid (by rw [xorL_snoc, hv, hq])
    have c1 : W.cell? ⟨w.heap.size + 1, 0, none⟩ = some (.bool v) := by rw [← hB0]; exact cell_of_row _ _ _ _ _ _ h1
    have f1 : W.frozen? ⟨w.heap.size + 1, 0, none⟩ = false := by rw [← hB0]; exact frozen_of_row _ _ _ _ _ h1
    have c2 : W.cell? ⟨w.heap.size, 0, none⟩ = some (.int .i64 p.x) := by rw [← hB0]; exact cell_of_row _ _ _ _ _ _ h2
    have c3 : W.cell? ⟨w.heap.size, 1, none⟩ = some (.int .i64 p.y) := by rw [← hB0]; exact cell_of_row _ _ _ _ _ _ h2
    obtain ⟨d1, d2, _, _⟩ := pt_cells b1
    obtain ⟨d3, d4, _, _⟩ := pt_cells b2
    have HH := Lib.hid (And.intro h2 (And.intro h3 (And.intro h4 (And.intro (show W.heap[w.heap.size + 1]? = some (.cells #[.bool v] 4 (0, 0)) by rw [← hB0]; exact h1) (show w.heap.size + 1 < W.heap.size by omega)))))
    unfold ptV at HCX
    clear hv hq h1 h2 h3 h4 b1 b2
    gi_wp2_with fail
    gi_region_with (first | (refine ⟨trivial, ?_⟩; gi_at_call 62; refine (CallsIn.inRound l (callsIn_wide.2 (HCX.out _))).mono ?_; rintro e w7 ⟨rfl, hg7⟩; have c8 := (hg7.1.block (w.heap.size + 1) (show w.heap.size + 1 < W.heap.size from HH.out.2.2.2.2)).trans (show W.drew.heap[w.heap.size + 1]? = _ from HH.out.2.2.2.1); have c9 : w7.cell? ⟨w.heap.size + 1, 0, none⟩ = some (.bool v) := cell_of_row _ _ _ _ _ _ c8; have f9 : w7.frozen? ⟨w.heap.size + 1, 0, none⟩ = false := frozen_of_row _ _ _ _ _ c8))
    all_goals gi_wp2_with fail
    all_goals (obtain ⟨h2, h3, h4, h1, _⟩ := HH.out; have hrr : xorL p (pre ++ [x]) = !(v == q) := HV.out; rw [← hB0] at h1 ⊢; exact in_round hg7 h1 h2 h3 h4 hrr)
  case done =>
    rintro D W hD ⟨h1, h2, h3, h4⟩ hK
    have c1 : W.cell? ⟨w.heap.size + 1, 0, none⟩ = some (.bool (xorL p (pairsL P))) := by rw [← hB0]; exact cell_of_row _ _ _ _ _ _ h1
    have HF := Lib.hid h3
    obtain ⟨r, hr⟩ : ∃ r, r = xorL p (pairsL P) := ⟨_, rfl⟩
    rw [← hr] at c1
    have HR := Lib.hid hr
    clear hr h1 h2 h3 h4
    gi_wp2
    refine ⟨by simp, .inl ⟨_, _, rfl, run_takeDeferred hK, ?_⟩⟩
    refine ⟨_, results_tmp rfl _ _ _, by rw [HR.out]; rfl, ?_⟩
    have hB : B0 ≤ D := by have := H2.out.2.2.2.1; omega
    rw [← hB0]
    exact HF.out.trans ((Below.refl _ _).grown (grownBy_putObj' W D _) (by have := (Array.getElem?_eq_some_iff.1 hK).1; omega) (fun k e => by cases e; exact hB))
end Go.Proofs.YtjiiikeniocmfaaGreat

/- the document's crossings: Counts -/
set_option linter.unusedSimpArgs false
set_option linter.unusedVariables false
namespace Go.Proofs.YtjiiikeniocmfaaGreat
open Go.RowKit Go.Geo
end Go.Proofs.YtjiiikeniocmfaaGreat
