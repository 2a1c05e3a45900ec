/- inside.pairs: each point and the one ahead of it -/
import Derived.Test.YtgijaaklhdcgeaaQRange
set_option linter.unusedSimpArgs false
set_option linter.unusedVariables false
namespace Go.Proofs.Ytgijaaklhdcgeaa
open Go.RowKit Go.Shelf Go.Geo
attribute [local go_sem] Oper.semAt_some
/-- the point ahead of the k-th, round the list. -/
def prevP (P : List Pt) (k : Nat) : Pt := if k = 0 then P.getD (P.length - 1) p0 else P.getD (k - 1) p0
theorem prevP_succ (P : List Pt) (k : Nat) : prevP P (k + 1) = P.getD k p0 := by unfold prevP; rw [if_neg (by omega)]; rfl
def pairsL (P : List Pt) : List (Pt × Pt) := (List.range P.length).map fun k => (prevP P k, P.getD k p0)
theorem pairsL_length (P : List Pt) : (pairsL P).length = P.length := by simp [pairsL]
theorem pairsL_take {P : List Pt} {k : Nat} (h : k < P.length) : (pairsL P).take (k + 1) = (pairsL P).take k ++ [(prevP P k, P.getD k p0)] := by
  rw [List.take_succ_eq_append_getElem (by rw [pairsL_length]; exact h)]
  simp [pairsL]
def encP (x : Pt × Pt) : Array Value := #[ptV x.1, ptV x.2]
/-- blocks below n0 stay, and all points. -/
def KpP (n0 : Nat) (W W' : World) : Prop := Below n0 W W' ∧ ∀ (j : Nat) (c : Array Value), W.heap[j]? = some (.cells c 27 (0, 0)) → W'.heap[j]? = some (.cells c 27 (0, 0))
theorem KpP.trans {n0 : Nat} {A B C : World} (h : KpP n0 A B) (k : KpP n0 B C) : KpP n0 A C := ⟨h.1.trans k.1, fun j c hj => k.2 j c (h.2 j c hj)⟩
theorem KpP.putObj {n0 : Nat} {w : World} (hn : n0 ≤ w.heap.size) (W : World) (l : Nat) (o o' : Obj) (hl : w.heap.size ≤ l) (h : W.heap[l]? = some o) (hc : o.isCells = false) : KpP n0 W (W.putObj l o') :=
  ⟨(Below.refl n0 W).grown (grownBy_putObj' W l o') (by have := (Array.getElem?_eq_some_iff.1 h).1; omega) (fun k e => by cases e; omega),
   fun j c hj => (World.putObj_heap_other (fun e => by subst e; rw [h] at hj; cases hj; cases hc)).trans hj⟩
theorem KpP.grew {n0 : Nat} {W W' : World} (h : Below W.heap.size W W') (hn : n0 ≤ W.heap.size) : KpP n0 W W' := ⟨h.mono hn, fun j c hj => (h.block j (Array.getElem?_eq_some_iff.1 hj).1).trans hj⟩
theorem own_put {B g : Nat} {W : World} {c : Array Value} (h : W.heap[g]? = some (.cells c 27 (0, 0))) (hB : B ≤ g) (o : Nat) (v : Value) : OwnStep B W (W.setCell ⟨g, o, none⟩ v) :=
  ⟨some g, ⟨rfl, rfl, rfl, by simp, fun k hk hne => Below.heap_setCell _ _ _ _ (fun e => hne (by rw [e]))⟩, fun r e => by cases e; exact ⟨hB, c, h⟩⟩
theorem pairs_any (ao : Option Addr) (n cap : Nat) (w : World) :
    Calls Try.prog 40 #[.slice ao n cap] w fun e w' => e = .returned (.func (.func 68) #[] #[.pointer (some ⟨w.heap.size, 0, none⟩)]) ∧ w.alloc (.cells #[.slice ao n cap] 28) = w' := by
  go_enter Try.func40, Try.ntmps40
  go_wp2
  go_ret
  exact ⟨rfl, rfl⟩
set_option maxRecDepth 100000 in
set_option maxHeartbeats 2000000 in
theorem pairs_gives (m Bn n0 : Nat) (ao : Option Addr) (n cap : Nat) (P : List Pt) (w : World) (hm : 1 ≤ m) (hBn : Bn < w.heap.size) (hn0 : n0 ≤ w.heap.size) (hc : w.cell? ⟨Bn, 0, none⟩ = some (.slice ao n cap)) (hP : ∀ A, Below n0 w A → IsPts A ao n cap P) :
    Gives m 68 #[.pointer (some ⟨Bn, 0, none⟩)] encP (KpP n0) (pairsL P) w := by
  intro l J W hW hJ hY h0
  have hP0 := hP w (Below.refl _ _)
  have HL : Hid (P.length = n) := hP0.1
  have hcm := hP0.2.2.1
  have hnc := hP0.2.1
  unfold maxLen at hcm
  have hcW : W.cell? ⟨Bn, 0, none⟩ = some (.slice ao n cap) := (hW.cell (p := ⟨Bn, 0, none⟩) hBn).trans hc
  have HP : Hid (∀ A, Below n0 W A → IsPts A ao n cap P) := Lib.hid (fun A hA => hP A ((hW.mono hn0).trans hA))
  have HN0 : Hid (n0 ≤ W.heap.size) := Lib.hid (Nat.le_trans hn0 hW.size)
  have HJ := Lib.hid hJ
  have HY := Lib.hid hY
  have H0 := Lib.hid h0
  clear hP0 hP hW hc hBn hn0 hJ hY h0
  by_cases hz : n = 0
  · subst hz
    refine callsIn_of_wp Try.func68 rfl trivial ?_ rfl
    simp only [Try.ntmps68, List.size_toArray, List.length_cons, List.length_nil, Nat.reduceAdd, Nat.reduceSub, Array.replicate_succ, Array.replicate_zero, List.push_toArray, List.append_toArray, List.nil_append, List.cons_append]
    gi_wp2_with fail
    refine bodyPost_ret (results_none rfl _ _ _) rfl ?_
    refine ⟨⟨_, rfl⟩, ?_⟩
    have : pairsL P = [] := List.eq_nil_of_length_eq_zero (by rw [pairsL_length]; exact HL.out)
    rw [this]
    exact H0.out
  · have hz1 : ((n : Int) == 0) = false := by simp; omega
    have hi1 : (0 : Int) ≤ (n : Int) - 1 := by omega
    have hi2 : (n : Int) - 1 < (n : Int) := by omega
    have hwr : wrap64 ((n : Int) - 1) = ((n - 1 : Nat) : Int) := by unfold wrap64; omega
    have hi3 : (0 : Int) ≤ ((n - 1 : Nat) : Int) := by omega
    have hi4 : ((n - 1 : Nat) : Int) < (n : Int) := by omega
    obtain ⟨b, off, rfl, e0, e1⟩ := (HP.out W (Below.refl _ _)).at (k := n - 1) (by omega)
    obtain ⟨z, hz⟩ : ∃ z, z = P.getD (n - 1) p0 := ⟨_, rfl⟩
    rw [← hz] at e0 e1
    have HZ := Lib.hid hz
    have hnn : (n : Int) - 1 = ((n - 1 : Nat) : Int) := by omega
    clear hz
    have hcW2 : (W.alloc (.cells #[.int .i64 z.x, .int .i64 z.y] 27)).cell? ⟨Bn, 0, none⟩ = some (.slice (some ⟨b, off, none⟩) n cap) := ((Grew.refl _).alloc _).cell hcW
    refine callsIn_of_wp Try.func68 rfl trivial ?_ rfl
    simp only [Try.ntmps68, List.size_toArray, List.length_cons, List.length_nil, Nat.reduceAdd, Nat.reduceSub, Array.replicate_succ, Array.replicate_zero, List.push_toArray, List.append_toArray, List.nil_append, List.cons_append]
    gi_wp2_with fail
    clear hcW hcW2 e0 e1
    gi_loopw [17] (fun i wr => ∃ k : Nat, k ≤ n ∧ i = .int .i64 k ∧ Hid (J ((pairsL P).take k) wr) ∧ Hid (wr.heap[W.heap.size]? = some (.cells #[.int .i64 (prevP P k).x, .int .i64 (prevP P k).y] 27 (0, 0))) ∧ Hid (Below n0 W wr)) (fun i _ => n - (intOf i).toNat)
    case atStart =>
      refine ⟨0, by omega, rfl, ?_, ?_, (Below.refl _ _).alloc HN0.out _⟩
      · rw [List.take_zero]; exact HJ.out _ _ _ H0.out (OwnStep.alloc _ _ _)
      · have e : prevP P 0 = z := by unfold prevP; rw [if_pos rfl, HL.out]; exact HZ.out.symm
        rw [e]
        exact alloc_new _ _
    case round =>
      obtain ⟨k, hk, rfl, hj, hlast, hbl⟩ := hrel
      by_cases hlt : k < n
      · have hk0 : (0 : Int) ≤ (k : Int) := by omega
        have hk5 : (k : Int) < (n : Int) := by omega
        obtain ⟨b2, off2, hbo, e0, e1⟩ := (HP.out wr hbl.out).at hlt
        cases hbo
        obtain ⟨c, hc⟩ : ∃ c, c = P.getD k p0 := ⟨_, rfl⟩
        obtain ⟨d, hd⟩ : ∃ d, d = prevP P k := ⟨_, rfl⟩
        rw [← hc] at e0 e1
        rw [← hd] at hlast
        have HT : Hid ((pairsL P).take (k + 1) = (pairsL P).take k ++ [(d, c)]) := Lib.hid (by rw [hd, hc]; exact pairsL_take (by rw [HL.out]; exact hlt))
        have HC : Hid (prevP P (k + 1) = c) := Lib.hid (by rw [prevP_succ, hc])
        have hwl : W.heap.size < wr.heap.size := (Array.getElem?_eq_some_iff.1 hlast.out).1
        have hl2 : (wr.alloc (.cells #[.int .i64 c.x, .int .i64 c.y] 27)).heap[W.heap.size]? = some (.cells #[.int .i64 d.x, .int .i64 d.y] 27 (0, 0)) := (Below.heap_alloc _ _ _ hwl).trans hlast.out
        obtain ⟨l0, l1, _, _⟩ := pt_cells hl2
        have q0 : (wr.alloc (.cells #[.int .i64 c.x, .int .i64 c.y] 27)).cell? ⟨wr.heap.size, 0, none⟩ = some (.int .i64 c.x) := cell_of_row _ _ _ _ _ _ (alloc_new _ _)
        have q1 : (wr.alloc (.cells #[.int .i64 c.x, .int .i64 c.y] 27)).cell? ⟨wr.heap.size, 1, none⟩ = some (.int .i64 c.y) := cell_of_row _ _ _ _ _ _ (alloc_new _ _)
        obtain ⟨fn, tmps, assign, body, hy, hR⟩ := HY.out ((pairsL P).take k) (d, c) (wr.alloc (.cells #[.int .i64 c.x, .int .i64 c.y] 27)) (HJ.out _ _ _ hj.out (OwnStep.alloc _ _ _)) (by rw [List.length_take, pairsL_length, HL.out]; omega)
        have HR := Lib.hid hR
        have HH := Lib.hid (And.intro hl2 (And.intro (alloc_new wr (.cells #[.int .i64 c.x, .int .i64 c.y] 27)) (hbl.out.alloc (Nat.le_trans HN0.out (Nat.le_of_lt hwl)) (.cells #[.int .i64 c.x, .int .i64 c.y] 27))))
        have HWL := Lib.hid hwl
        unfold encP ptV at hy
        dsimp only at hy
        clear hR hc hd hl2 hwl
        gi_wp2_with fail
        refine HR.out.mono ?_
        rintro e W3 ⟨rfl, hj3, hk3⟩
        have hl3 := hk3.2 _ _ HH.out.1
        have hp3 := hk3.2 _ _ HH.out.2.1
        have HJ3 := Lib.hid (And.intro hj3 (HH.out.2.2.trans hk3.1))
        have HL3 := Lib.hid hl3
        obtain ⟨_, _, f0, f1⟩ := pt_cells hl3
        obtain ⟨l2, l3, _, _⟩ := pt_cells hl3
        obtain ⟨q2, q3, _, _⟩ := pt_cells hp3
        clear hj3 hk3 hl3 hp3 l0 l1 q0 q1
        gi_wp2_with fail
        go_roundw
        case rel =>
          have s1 := own_put (B := W.heap.size) HL3.out (Nat.le_refl _) 0 (.int .i64 c.x)
          have h1 := heap_setCell_same W3 W.heap.size 0 _ _ (.int .i64 c.x) HL3.out
          have s2 := own_put (B := W.heap.size) h1 (Nat.le_refl _) 1 (.int .i64 c.y)
          have h2 := heap_setCell_same _ W.heap.size 1 _ _ (.int .i64 c.y) h1
          refine ⟨k + 1, by omega, by go_num, ?_, ?_, ?_⟩
          · rw [HT.out]; exact HJ.out _ _ _ (HJ.out _ _ _ HJ3.out.1 s1) s2
          · rw [HC.out]; exact h2
          · exact Lib.hid ((HJ3.out.2.setCell (p := ⟨W.heap.size, 0, none⟩) HN0.out _).setCell (p := ⟨W.heap.size, 1, none⟩) HN0.out _)
        case measure => simp [intOf]; omega
      · obtain rfl : n = k := by omega
        gi_wp2_with fail
        go_end0
        refine ⟨⟨_, rfl⟩, ?_⟩
        have := hj.out
        rw [List.take_of_length_le (by rw [pairsL_length, HL.out]; exact Nat.le_refl _)] at this
        exact this
end Go.Proofs.Ytgijaaklhdcgeaa
