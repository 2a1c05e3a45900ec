/- juris: above, walked -/
import Derived.RangeFuncNested
import Derived.RangeFuncBound
import Derived.RangeFuncCalls
import Derived.RangeFuncLeaves
import Derived.RangeFuncWrites
import Derived.Shelf.Abstract
import Derived.Shelf.RegionOpen
import Derived.OwnWalkIn
import Derived.TacticsInMore
import Derived.LoopNIn
import Derived.LoopIn
import Derived.Test.YtbidappkmnedaaaJCheck
import Derived.Test.YtbidappkmnedaaaJInts
namespace Go.Proofs.Ytbidappkmnedaaa
open Go.RowKit Go.Shelf
attribute [local go_sem] Oper.semAt_some
/-- these are above a number, one after the other, and no more. -/
inductive Chain (L : List Jur) : Int → List Int → Prop
  | none {x : Int} : atJ L x = none → Chain L x []
  | top {x : Int} {i : Nat} : atJ L x = some i → (L.getD i j0).pa = 0 → Chain L x []
  | on {x : Int} {i : Nat} {ys : List Int} : atJ L x = some i → (L.getD i j0).pa ≠ 0 → Chain L (L.getD i j0).pa ys → Chain L x ((L.getD i j0).pa :: ys)
/-- whatever holds no numbers, nor a slice of them, stays. -/
structure KeepJ (W W' : World) : Prop where
  size : W.heap.size ≤ W'.heap.size
  cells : ∀ (j : Nat) (c : Array Value) (t : TypeId) (fr : Nat × Nat), W.heap[j]? = some (.cells c t fr) → t ≠ 3 → t ≠ 38 → W'.heap[j]? = some (.cells c t fr)
theorem KeepJ.trans {A B C : World} (h : KeepJ A B) (k : KeepJ B C) : KeepJ A C := ⟨Nat.le_trans h.size k.size, fun j c t fr hj h1 h2 => k.cells j c t fr (h.cells j c t fr hj h1 h2) h1 h2⟩
theorem grownBy_of_grew {A B : World} (h : Grew A B) : A.grownBy B none := ⟨h.1.os, h.1.tape, h.1.output, h.1.size, fun k hk _ => h.1.block k hk⟩
theorem room_of_none {F : Fence} (hd : F.depth = none) (k : Nat) : F.room k := fun d h => by rw [hd] at h; cases h
theorem RoundIn.anyDepth {F : Fence} (hd : F.depth = none) {m m' : Nat} {P : Program} {l : Nat} {f : FuncId} {tmps : Array Value} {assign body : Code} {w : World} {R : Ending → World → Prop}
    (h : RoundIn F m P l f tmps assign body w R) : RoundIn F m' P l f tmps assign body w R := ⟨h.1, fun c cs _ => h.2 c cs (room_of_none hd _)⟩
theorem YieldAt.anyDepth {F : Fence} (hd : F.depth = none) {m : Nat} (m' : Nat) {P : Program} {l : Nat} {args : Array Value} {W : World} {R : Ending → World → Prop} (h : YieldAt F m P l args W R) : YieldAt F m' P l args W R := by
  obtain ⟨fn, tmps, assign, body, hy, hR⟩ := h
  exact ⟨fn, tmps, assign, body, hy, RoundIn.anyDepth hd hR⟩
theorem above_any (ao : Option Addr) (n cap : Nat) (x : Int) (w : World) :
    Calls Try.prog 42 #[.slice ao n cap, .int .i64 x] w fun e w' => e = .returned (.func (.func 50) #[] #[.pointer (some ⟨w.heap.size, 0, none⟩), .pointer (some ⟨w.heap.size + 1, 0, none⟩)]) ∧
      (w.alloc (.cells #[.slice ao n cap] 22)).alloc (.cells #[.int .i64 x] 3) = w' := by
  go_enter Try.func42, Try.ntmps42
  go_wp2
  go_ret
  exact ⟨rfl, rfl⟩
set_option maxRecDepth 100000 in
set_option maxHeartbeats 1000000 in
theorem above1_in (ao : Option Addr) (n cap : Nat) (L : List Jur) (l n0 N : Nat) (J Jx : List Int → World → Prop) (hJ : ∀ pre A B, J pre A → Grew A B → J pre B) (hJs : ∀ pre A, J pre A → n0 ≤ A.heap.size)
    (hY : ∀ m pre x W, J pre W → pre.length < N → YieldAt Fence.wide m Try.prog l #[.int .i64 x] W fun e W' =>
      (e = .returned (.bool true) ∧ J (pre ++ [x]) W' ∧ Below n0 W W' ∧ KeepJ W W') ∨ (e = .returned (.bool false) ∧ Jx (pre ++ [x]) W')) {x : Int} {ys : List Int} (hc : Chain L x ys) :
    ∀ (m : Nat) (B1 B2 : Nat) (pre : List Int) (W : World), (∀ A, Below n0 W A → IsJurs A ao n cap L) → W.heap[B1]? = some (.cells #[.slice ao n cap] 22 (0, 0)) → W.cell? ⟨B2, 0, none⟩ = some (.int .i64 x) → J pre W → pre.length + ys.length ≤ N →
      CallsIn Fence.wide m Try.prog 50 #[.func (.yield l) #[] #[], .pointer (some ⟨B1, 0, none⟩), .pointer (some ⟨B2, 0, none⟩)] W fun e W' => (∃ v, e = .returned v) ∧
        (J (pre ++ ys) W' ∨ ∃ q, q <+: ys ∧ Jx (pre ++ q) W') := by
  induction hc with
  | @none y ha =>
    intro m B1 B2 pre W hjs hb1 h2 hJ0 hN
    have h1 : W.cell? ⟨B1, 0, none⟩ = some (.slice ao n cap) := cell_of_row _ _ _ _ _ _ hb1
    have hf : findP L y = (j0, false) := by unfold findP; rw [ha]
    have HF := Lib.hid (Find_any ao n cap L y W (hjs W (Below.refl _ _)))
    rw [hf] at HF
    unfold j0 Jur.val Jur.row at HF
    dsimp only at HF
    have HJ0 := Lib.hid hJ0
    clear hf ha hjs hJ0
    refine callsIn_of_wp Try.func50 rfl trivial ?_ rfl
    simp only [Try.ntmps50, List.size_toArray, List.length_cons, List.length_nil, Nat.reduceAdd, Nat.reduceSub, Array.replicate_succ, Array.replicate_zero, List.push_toArray, List.append_toArray, List.nil_append, List.cons_append]
    gi_wp2_with fail
    refine ⟨trivial, fun h => by simp [Fence.wide] at h, ?_⟩
    refine (callsIn_wide.2 HF.out).mono ?_
    rintro e W1 ⟨rfl, hg1⟩
    have HG1 := Lib.hid hg1
    clear hg1
    gi_wp2_with fail
    refine ⟨fun _ h => (by cases h), ?_⟩
    gi_wp2_with fail
    refine bodyPost_ret (results_none rfl _ _ _) rfl ?_
    exact ⟨⟨_, rfl⟩, .inl (by rw [List.append_nil]; exact hJ _ _ _ HJ0.out (HG1.out.alloc _))⟩
  | @top y i ha hp =>
    intro m B1 B2 pre W hjs hb1 h2 hJ0 hN
    have h1 : W.cell? ⟨B1, 0, none⟩ = some (.slice ao n cap) := cell_of_row _ _ _ _ _ _ hb1
    obtain ⟨c, hc⟩ : ∃ c, c = L.getD i j0 := ⟨_, rfl⟩
    have hf : findP L y = (c, true) := by unfold findP; rw [ha, hc]
    rw [← hc] at hp
    have HF := Lib.hid (Find_any ao n cap L y W (hjs W (Below.refl _ _)))
    rw [hf] at HF
    obtain ⟨d1, d2, d3, d4, d5, d6, d7⟩ := c
    dsimp only at hp
    subst hp
    unfold Jur.val Jur.row at HF
    dsimp only at HF
    have HJ0 := Lib.hid hJ0
    clear hf ha hjs hJ0 hc
    refine callsIn_of_wp Try.func50 rfl trivial ?_ rfl
    simp only [Try.ntmps50, List.size_toArray, List.length_cons, List.length_nil, Nat.reduceAdd, Nat.reduceSub, Array.replicate_succ, Array.replicate_zero, List.push_toArray, List.append_toArray, List.nil_append, List.cons_append]
    gi_wp2_with fail
    refine ⟨trivial, fun h => by simp [Fence.wide] at h, ?_⟩
    refine (callsIn_wide.2 HF.out).mono ?_
    rintro e W1 ⟨rfl, hg1⟩
    have HG1 := Lib.hid hg1
    clear hg1
    gi_wp2_with fail
    refine ⟨fun _ h => (by cases h), ?_⟩
    gi_wp2_with fail
    refine bodyPost_ret (results_none rfl _ _ _) rfl ?_
    exact ⟨⟨_, rfl⟩, .inl (by rw [List.append_nil]; exact hJ _ _ _ HJ0.out (HG1.out.alloc _))⟩
  | @on y i ys ha hp hch ih =>
    intro m B1 B2 pre W hjs hb1 h2 hJ0 hN
    have h1 : W.cell? ⟨B1, 0, none⟩ = some (.slice ao n cap) := cell_of_row _ _ _ _ _ _ hb1
    obtain ⟨c, hc⟩ : ∃ c, c = L.getD i j0 := ⟨_, rfl⟩
    have hf : findP L y = (c, true) := by unfold findP; rw [ha, hc]
    rw [← hc] at hp ih ⊢
    rw [← hc] at hN
    have HF := Lib.hid (Find_any ao n cap L y W (hjs W (Below.refl _ _)))
    rw [hf] at HF
    obtain ⟨d1, d2, d3, d4, d5, d6, d7⟩ := c
    dsimp only at hp ih hN ⊢
    unfold Jur.val Jur.row at HF
    dsimp only at HF
    have hp1 : (d3 == 0) = false := by simpa using hp
    have HJ0 := Lib.hid hJ0
    have HIH := Lib.hid ih
    have HJS := Lib.hid hjs
    have HCH := Lib.hid hch
    have HHJ := Lib.hid hJ
    have HHS := Lib.hid hJs
    have HY := Lib.hid hY
    clear hf ha hjs hJ0 hc hp ih hch
    refine callsIn_of_wp Try.func50 rfl trivial ?_ rfl
    simp only [Try.ntmps50, List.size_toArray, List.length_cons, List.length_nil, Nat.reduceAdd, Nat.reduceSub, Array.replicate_succ, Array.replicate_zero, List.push_toArray, List.append_toArray, List.nil_append, List.cons_append]
    gi_wp2_with fail
    refine ⟨trivial, fun h => by simp [Fence.wide] at h, ?_⟩
    refine (callsIn_wide.2 HF.out).mono ?_
    rintro e W1 ⟨rfl, hg1⟩
    have HG1 := Lib.hid hg1
    clear hg1
    obtain ⟨W2, hW2⟩ : ∃ W2, W2 = W1.alloc (Obj.cells #[.int .i64 d1, .int .i64 d2, .int .i64 d3, .int .i64 d4, .slice d5 d6 d7] 33) := ⟨_, rfl⟩
    have hg2 : Grew W W2 := by rw [hW2]; exact HG1.out.alloc _
    have hx2 : W2.heap[W1.heap.size]? = some (.cells #[.int .i64 d1, .int .i64 d2, .int .i64 d3, .int .i64 d4, .slice d5 d6 d7] 33 (0, 0)) := by rw [hW2]; exact alloc_new _ _
    have hb2 : W2.heap[B1]? = some (.cells #[.slice ao n cap] 22 (0, 0)) := (hg2.1.block B1 (Array.getElem?_eq_some_iff.1 hb1).1).trans hb1
    have hJ2 := HHJ.out _ _ _ HJ0.out hg2
    obtain ⟨fn, tmps, assign, body, hy, hR⟩ := HY.out (m - 1) pre d3 W2 hJ2 (by simp at hN; omega)
    subst hW2
    have H2 := Lib.hid (And.intro hg2 (And.intro hx2 hb2))
    have HR := Lib.hid hR
    clear hg2 hx2 hb2 hJ2 hR
    gi_wp2_with fail
    refine ⟨fun h => by simp [Fence.wide] at h, ?_⟩
    refine HR.out.mono ?_
    rintro e W3 (⟨rfl, hJ3, hb3, hk3⟩ | ⟨rfl, hx3⟩)
    · have hx4 := hk3.cells _ _ _ _ H2.out.2.1 (by decide) (by decide)
      have hb4 := hk3.cells _ _ _ _ H2.out.2.2 (by decide) (by decide)
      have p4 : W3.cell? ⟨W1.heap.size, 2, none⟩ = some (.int .i64 d3) := cell_of_row _ _ _ _ _ _ hx4
      have q4 : W3.cell? ⟨B1, 0, none⟩ = some (.slice ao n cap) := cell_of_row _ _ _ _ _ _ hb4
      have hn03 := HHS.out _ _ hJ3
      have hn0 := HHS.out _ _ HJ0.out
      have hjs3 : ∀ A, Below n0 W3 A → IsJurs A ao n cap L := fun A hA => HJS.out A ((H2.out.1.1.mono hn0).trans (hb3.trans hA))
      have H3 := Lib.hid (And.intro hJ3 (And.intro hjs3 hn03))
      have HAB := Lib.hid (above_any ao n cap d3 W3)
      clear hx4 hb4 hJ3 hb3 hk3 hn03 hn0 hjs3
      gi_wp2_with fail
      refine ⟨trivial, fun h => by simp [Fence.wide] at h, ?_⟩
      refine (callsIn_wide.2 HAB.out).mono ?_
      rintro e W4 ⟨rfl, rfl⟩
      have hgr4 : Grew W3 ((W3.alloc (.cells #[.slice ao n cap] 22)).alloc (.cells #[.int .i64 d3] 3)) := ((Grew.refl _).alloc _).alloc _
      have hA1 : ((W3.alloc (.cells #[.slice ao n cap] 22)).alloc (.cells #[.int .i64 d3] 3)).heap[W3.heap.size]? = some (.cells #[.slice ao n cap] 22 (0, 0)) :=
        (Below.heap_alloc _ _ _ (by simp)).trans (alloc_new _ _)
      have hA2 : ((W3.alloc (.cells #[.slice ao n cap] 22)).alloc (.cells #[.int .i64 d3] 3)).cell? ⟨W3.heap.size + 1, 0, none⟩ = some (.int .i64 d3) := cell_of_row _ _ _ _ _ _ (alloc_new2 _ _ _)
      have HRE := Lib.hid (HIH.out (m - 1) (W3.heap.size) (W3.heap.size + 1) (pre ++ [d3]) _ (fun A hA => H3.out.2.1 A ((hgr4.1.mono H3.out.2.2).trans hA)) hA1 hA2 (HHJ.out _ _ _ H3.out.1 hgr4) (by simp at hN ⊢; omega))
      clear hgr4 hA1 hA2
      gi_wp2_with fail
      refine ⟨trivial, fun h => by simp [Fence.wide] at h, ?_⟩
      refine HRE.out.mono ?_
      rintro e W5 ⟨⟨v, rfl⟩, hres⟩
      have HRES := Lib.hid hres
      clear hres
      gi_wp2_with fail
      go_end0
      refine ⟨⟨_, rfl⟩, ?_⟩
      rcases HRES.out with h | ⟨q, hq, h⟩
      · exact .inl (by rw [List.append_assoc] at h; exact h)
      · obtain ⟨r, hr⟩ := hq
        exact .inr ⟨d3 :: q, ⟨r, by rw [← hr]; rfl⟩, by rw [List.append_assoc] at h; exact h⟩
    · gi_wp2_with fail
      refine bodyPost_ret (results_none rfl _ _ _) rfl ?_
      exact ⟨⟨_, rfl⟩, .inr ⟨[d3], by simp, hx3⟩⟩
/-- what a round keeps. -/
def KpJ (n0 : Nat) (W W' : World) : Prop := Below n0 W W' ∧ KeepJ W W'
theorem above_stops (ao : Option Addr) (n cap : Nat) (L : List Jur) (m B1 B2 n0 : Nat) (x : Int) (ys : List Int) (w : World) (hc : Chain L x ys) (hjs : ∀ A, Below n0 w A → IsJurs A ao n cap L) (hn0 : n0 ≤ w.heap.size)
    (h1 : w.heap[B1]? = some (.cells #[.slice ao n cap] 22 (0, 0))) (h2 : w.cell? ⟨B2, 0, none⟩ = some (.int .i64 x)) :
    SeqStopsK Fence.wide m Try.prog 50 #[.pointer (some ⟨B1, 0, none⟩), .pointer (some ⟨B2, 0, none⟩)] (fun y : Int => #[Value.int .i64 y]) (KpJ n0) (fun zs => zs = ys) (fun pre => pre <+: ys) ys.length w := by
  intro l J Jx W hW hJ hJx hY h0
  have hB1 := (Array.getElem?_eq_some_iff.1 h1).1
  have hB2 := block_lt_of_cell h2
  have h := above1_in ao n cap L l n0 ys.length (fun pre A => J pre A ∧ n0 ≤ A.heap.size ∧ W.heap.size ≤ A.heap.size) Jx (fun pre A B hj hg => ⟨hJ pre A B none hj.1 (grownBy_of_grew hg) (fun r e => by cases e), Nat.le_trans hj.2.1 hg.size, Nat.le_trans hj.2.2 hg.size⟩) (fun pre A hj => hj.2.1)
    (fun k pre y A hj hl => YieldAt.mono (YieldAt.anyDepth rfl k (hY pre y A hj.1 hl)) (fun e A' hh => by
      rcases hh with ⟨he, hj', hk⟩ | ⟨he, hx⟩
      · exact .inl ⟨he, ⟨hj', Nat.le_trans hj.2.1 hk.2.size, Nat.le_trans hj.2.2 hk.2.size⟩, hk.1, hk.2⟩
      · exact .inr ⟨he, hx⟩)) hc m B1 B2 [] W (fun A hA => hjs A ((hW.mono hn0).trans hA)) ((hW.block B1 hB1).trans h1) ((hW.cell (p := ⟨B2, 0, none⟩) hB2).trans h2) ⟨h0, Nat.le_trans hn0 hW.size, Nat.le_refl _⟩ (by simp)
  refine h.mono ?_
  rintro e W' ⟨he, hr⟩
  refine ⟨he, ?_⟩
  rcases hr with h | ⟨q, hq, h⟩
  · exact .inl ⟨ys, rfl, by simpa using h.1⟩
  · exact .inr ⟨q, hq, by simpa using h⟩
end Go.Proofs.Ytbidappkmnedaaa
