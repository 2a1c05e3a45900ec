/- 'for a, b := range seq { .. }' where the iterator keeps a point of its own in a box, and the body never leaves -/
import Derived.RangeFuncNested
import Derived.RangeFuncBound
import Derived.RangeFuncCalls
import Derived.RangeFuncLeaves
import Derived.RangeFuncWrites
import Derived.Shelf.Abstract
import Derived.Shelf.RegionOpen
import Derived.OwnWalkIn
import Derived.TacticsInMore
import Derived.LoopNIn
import Derived.LoopIn
import Derived.Test.YtdikecfplohpeaaGreatMQCounts
import Derived.Test.YtdikecfplohpeaaGreatMSlab2
import Derived.IntWalk
import Derived.Test.YtdikecfplohpeaaGreatMQCont
import Derived.Maps.OwnSet
import Derived.DeepKeys4
set_option linter.unusedSimpArgs false
set_option linter.unusedVariables false
namespace Go.Proofs.YtdikecfplohpeaaGreat
open Go.RowKit Go.Shelf Go.Geo
attribute [local go_sem] Oper.semAt_some
/-- what the iterator does on its own: new blocks, a store into a point that lies at B or beyond. -/
def OwnStep (B : Nat) (A A' : World) : Prop := ∃ row, A.grownBy A' row ∧ ∀ r, row = some r → B ≤ r ∧ ∃ c, A.heap[r]? = some (.cells c 40 (0, 0))
theorem OwnStep.alloc (B : Nat) (A : World) (o : Obj) : OwnStep B A (A.alloc o) := ⟨none, World.grownBy_alloc A o none, fun r e => by cases e⟩
theorem OwnStep.other {B : Nat} {A A' : World} (h : OwnStep B A A') {k : Nat} {o : Obj} (hk : A.heap[k]? = some o) (ho : o.isCells = false) : A'.heap[k]? = some o := by
  obtain ⟨row, hg, hr⟩ := h
  refine (hg.block k (Array.getElem?_eq_some_iff.1 hk).1 (fun e => ?_)).trans hk
  obtain ⟨_, c, hc⟩ := hr k e.symm
  rw [hk] at hc
  cases hc
  cases ho
/-- the iterator's contract: it goes through all of xs, if each round says 'on'. -/
def Gives {α : Type} (n : Nat) (gf : Nat) (lb : Array Value) (encs : α → Array Value) (Kp : World → World → Prop) (xs : List α) (w : World) : Prop :=
  ∀ (l : Nat) (J : List α → World → Prop) (W : World), Below w.heap.size w W → (∀ s A A', J s A → OwnStep W.heap.size A A' → J s A') →
    (∀ pre x W1, J pre W1 → pre.length < xs.length → YieldAt Fence.wide (n - 1) Tryz.prog l (encs x) W1 fun e W' => e = .returned (.bool true) ∧ J (pre ++ [x]) W' ∧ Kp W1 W') →
    J [] W → CallsIn Fence.wide n Tryz.prog gf (#[.func (.yield l) #[] #[]] ++ lb) W fun e W' => (∃ v, e = .returned v) ∧ J xs W'
theorem wp_gives {α : Type} {g : Operand} {ps : Array Tmp} {assign body : Code} {Q : Exit → Act → World → Prop} {a : Act} {w : World} {n : Nat} (h1 : 1 ≤ n) {gf : Nat} {lb : Array Value}
    (hg : a.eval g = .func (.func gf) #[] lb) (eg : ∀ args w, (callFunc gf args).run Tryz.prog w = .ok (.enter gf args) w) {encs : α → Array Value} {Kp : World → World → Prop} {xs : List α} (hseq : Gives (n - 1) gf lb encs Kp xs w)
    (hKt : ∀ {A B C : World}, Kp A B → Kp B C → Kp A C) (hKb : ∀ (W : World) (l : Nat) (o o' : Obj), w.heap.size ≤ l → W.heap[l]? = some o → o.isCells = false → Kp W (W.putObj l o')) (hps : ∀ x, (encs x).size = ps.size)
    (I : List α → World → Prop) (hI : OwnFrom w.heap.size I) (hIs : ∀ s A A', I s A → OwnStep w.heap.size A A' → I s A') (h0 : I [] w) (Ax : α → Act → World → Prop) (hAx : ∀ x a', OwnFrom w.heap.size (fun (_ : Unit) W => Ax x a' W))
    (hassign : ∀ (l : Nat) (pre : List α) (x : α) (W : World) (K : Act → World → Prop), I pre W → (∀ a' W', KeepsFrom w.heap.size W W' → Kp W W' → I pre W' → Ax x a' W' → K a' W') →
      assign.wpIn (Fence.wide.inRound l) (n - 1 - 1) Tryz.prog (Exit.then K (fun _ _ _ => False)) { tmps := (ps.zip (encs x)).foldl (fun t (p, v) => t.setIfInBounds p v) a.tmps, defers := [] } W)
    (hbody : ∀ (l : Nat) (pre : List α) (x : α) (a' : Act) (W : World), I pre W → Ax x a' W → pre.length < xs.length → body.wpIn (Fence.wide.inRound l) (n - 1 - 1) Tryz.prog (Exit.then (fun _ W' => KeepsFrom w.heap.size W W' ∧ Kp W W' ∧ I (pre ++ [x]) W') (fun _ _ _ => False)) a' W)
    (hdone : ∀ (D : Nat) (W : World), w.heap.size ≤ D → I xs W → W.heap[D]? = some (.deferred (some [])) → Q .normal { a with defers := { target := .collected D, args := #[] } :: a.defers } W) :
    (Code.rangeFunc g ps assign body).wpIn Fence.wide n Tryz.prog Q a w := by
  refine wpIn_rangeFunc ?_
  intro fn hfn
  have hro : Fence.wide.round = none := rfl
  rw [hro]
  -- the loop's record, in each of its states; the world behind the loop's two blocks
  let rec' : LoopState → Option Code → Loop := fun st pe => { state := st, pending := pe, fn, tmps := a.tmps, params := ps, assign, body, defers := w.heap.size }
  let W1 := (w.alloc (.deferred (some []))).alloc (.loop (rec' .ready none))
  have z1 : W1.heap.size = w.heap.size + 2 := by simp [W1]
  have bl : W1.heap[w.heap.size + 1]? = some (.loop (rec' .ready none)) := by
    have := World.alloc_heap_new (w.alloc (.deferred (some []))) (.loop (rec' .ready none)); rwa [World.size_alloc] at this
  have bd : W1.heap[w.heap.size]? = some (.deferred (some [])) := (Below.heap_alloc _ _ _ (by simp)).trans (World.alloc_heap_new w _)
  refine ⟨w.heap.size + 1, [{ target := .collected w.heap.size, args := #[] }], W1, { target := .fn (.func gf) lb, args := #[.func (.yield (w.heap.size + 1)) #[] #[]] }, W1, gf,
    #[.func (.yield (w.heap.size + 1)) #[] #[]] ++ lb, W1, run_enterLoop_outer _ _ _ _ _, ?_, fun f' hf' => trivial, ?_, fun _ => h1, ?_⟩
  · simp only [resolve, hg]
    simp [go_sem]
  · simp [invoke, go_sem, eg]
  · refine (hseq (w.heap.size + 1) (fun pre W => I pre W ∧ W.heap[w.heap.size + 1]? = some (.loop (rec' .ready none)) ∧ W.heap[w.heap.size]? = some (.deferred (some []))) W1
      (((Below.refl _ w).alloc (Nat.le_refl _) _).alloc (by simp) _)
      (fun s A A' h hs => ⟨hIs s A A' h.1 (by obtain ⟨row, k1, k2⟩ := hs; exact ⟨row, k1, fun r e => ⟨by have := (k2 r e).1; omega, (k2 r e).2⟩⟩), hs.other h.2.1 rfl, hs.other h.2.2 rfl⟩)
      ?_ ⟨hI.alloc _ (hI.alloc _ h0), bl, bd⟩).mono ?_
    · rintro pre x W ⟨hi, hl, hk⟩ hlen
      refine ⟨fn, _, assign, body, run_yield (P := Tryz.prog) (args := encs x) hl (hps x), roundIn_of_wpIn hfn (hassign _ pre x W _ hi ?_)⟩
      intro a' Wa kf kp ia ax
      have la := kf.same _ _ (Nat.le_succ _) hl rfl
      have ka := kf.same _ _ (Nat.le_refl _) hk rfl
      refine ⟨_, run_beginRound la rfl, ?_⟩
      have hp1 := Kp
      have lb2 : (Wa.putObj (w.heap.size + 1) (.loop { rec' .ready none with state := .busy })).heap[w.heap.size + 1]? = some (.loop { rec' .ready none with state := .busy }) := World.putObj_heap_same (Array.getElem?_eq_some_iff.1 la).1
      have kb2 : (Wa.putObj (w.heap.size + 1) (.loop { rec' .ready none with state := .busy })).heap[w.heap.size]? = some (.deferred (some [])) := (World.putObj_heap_other (by omega)).trans ka
      refine wpIn_mono (hbody _ pre x a' _ (hI.putObj _ ia (Nat.le_succ _) la rfl) ((hAx x a').putObj (s := ()) _ ax (Nat.le_succ _) la rfl) hlen) ?_
      rintro e a3 W3 hp
      cases e with
      | normal =>
        obtain ⟨k3, p3, i3⟩ := hp
        have l3 := k3.same _ _ (Nat.le_succ _) lb2 rfl
        have d3 := k3.same _ _ (Nat.le_refl _) kb2 rfl
        exact ⟨_, _, run_endRound (P := Tryz.prog) none l3, rfl, ⟨hI.putObj _ i3 (Nat.le_succ _) l3 rfl, World.putObj_heap_same (Array.getElem?_eq_some_iff.1 l3).1, (World.putObj_heap_other (by omega)).trans d3⟩,
          hKt kp (hKt (hKt (hKb _ _ _ _ (Nat.le_succ _) la rfl) p3) (hKb _ _ _ _ (Nat.le_succ _) l3 rfl))⟩
      | ret => exact hp.elim
      | exit id => exact hp.elim
      | goto t => exact hp.elim
      | panic ch => exact hp.elim
      | outgrown => exact hp.elim
    · rintro e W2 ⟨⟨v, rfl⟩, hi, hl, hk⟩
      exact ⟨none, _, run_endLoop (P := Tryz.prog) hl (by simp [rec']), hdone _ _ (Nat.le_refl _) (hI.putObj _ hi (Nat.le_succ _) hl rfl) ((World.putObj_heap_other (by omega)).trans hk)⟩
end Go.Proofs.YtdikecfplohpeaaGreat

/- ring.edges: each point's place, and its segment -/
set_option linter.unusedSimpArgs false
set_option linter.unusedVariables false
namespace Go.Proofs.YtdikecfplohpeaaGreat
open Go.RowKit Go.Shelf Go.Geo
attribute [local go_sem] Oper.semAt_some
/-- the edges, each by its place. -/
def edgesL (P : List Pt) : List (Fin P.length) := List.finRange P.length
theorem edgesL_length (P : List Pt) : (edgesL P).length = P.length := by simp [edgesL]
theorem edgesL_take {P : List Pt} {k : Nat} (h : k < P.length) : (edgesL P).take (k + 1) = (edgesL P).take k ++ [⟨k, h⟩] := by
  rw [List.take_succ_eq_append_getElem (by rw [edgesL_length]; exact h)]
  simp [edgesL]
def encE (P : List Pt) (x : Fin P.length) : Array Value := #[.int .i64 x.1, .agg #[.int .i64 (P.getD x.1 p0).x, .int .i64 (P.getD x.1 p0).y, .int .i64 (atP P (x.1 + 1)).x, .int .i64 (atP P (x.1 + 1)).y]]
theorem edges_any (ao : Option Addr) (n cap : Nat) (w : World) :
    Calls Tryz.prog 87 #[.slice ao n cap] w fun e w' => e = .returned (.func (.func 103) #[] #[.pointer (some ⟨w.heap.size, 0, none⟩)]) ∧ w.alloc (.cells #[.slice ao n cap] 25) = w' := by
  go_enter Tryz.func87, Tryz.ntmps87
  go_wp2
  go_ret
  exact ⟨rfl, rfl⟩
set_option maxRecDepth 100000 in
set_option maxHeartbeats 2000000 in
theorem edges_stops (m Bn n0 : Nat) (ao : Option Addr) (n cap : Nat) (P : List Pt) (w : World) (hm : 1 ≤ m) (hBn : Bn < n0) (hn0 : n0 ≤ w.heap.size) (hc : w.cell? ⟨Bn, 0, none⟩ = some (.slice ao n cap)) (hP : ∀ A, Below n0 w A → IsPts A ao n cap P) (hs : n ≤ 1048576) :
    SeqStopsK Fence.wide m Tryz.prog 103 #[.pointer (some ⟨Bn, 0, none⟩)] (encE P) (Below n0) (fun ys => ys = edgesL P) (fun pre => pre <+: edgesL P) (edgesL P).length w := by
  intro l J Jx W hW hJ hJx hY h0
  have hP0 := hP w (Below.refl _ _)
  have HL : Hid (P.length = n) := hP0.1
  have hcm := hP0.2.2.1
  have hnc := hP0.2.1
  unfold maxLen at hcm
  have HC : Hid (∀ A, Below n0 W A → A.cell? ⟨Bn, 0, none⟩ = some (.slice ao n cap)) := Lib.hid (fun A hA => (hA.cell (p := ⟨Bn, 0, none⟩) hBn).trans ((hW.cell (p := ⟨Bn, 0, none⟩) (Nat.lt_of_lt_of_le hBn hn0)).trans hc))
  have HP : Hid (∀ A, Below n0 W A → IsPts A ao n cap P) := Lib.hid (fun A hA => hP A ((hW.mono hn0).trans hA))
  have HN0 : Hid (n0 ≤ W.heap.size) := Lib.hid (Nat.le_trans hn0 hW.size)
  have HJ := Lib.hid hJ
  have HY := Lib.hid hY
  have H0 := Lib.hid h0
  have hcW := HC.out W (Below.refl _ _)
  clear hP0 hP hW hc hBn hn0 hJ hJx hY h0
  refine callsIn_of_wp Tryz.func103 rfl trivial ?_ rfl
  simp only [Tryz.ntmps103, List.size_toArray, List.length_cons, List.length_nil, Nat.reduceAdd, Nat.reduceSub, Array.replicate_succ, Array.replicate_zero, List.push_toArray, List.append_toArray, List.nil_append, List.cons_append]
  gi_wp2_with fail
  clear hcW
  gi_loopw [7] (fun i wr => ∃ k : Nat, k ≤ n ∧ i = .int .i64 k ∧ Hid (J ((edgesL P).take k) wr) ∧ Hid (Below n0 W wr)) (fun i _ => n - (intOf i).toNat)
  case atStart =>
    refine ⟨0, by omega, rfl, ?_, Below.refl _ _⟩
    rw [List.take_zero]; exact H0
  case round =>
    obtain ⟨k, hk, rfl, hj, hbl⟩ := hrel
    by_cases hlt : k < n
    · have hk0 : (0 : Int) ≤ (k : Int) := by omega
      have hk5 : (k : Int) < (n : Int) := by omega
      obtain ⟨b2, off2, rfl, e0, e1⟩ := (HP.out wr hbl.out).at hlt
      obtain ⟨c, hc⟩ : ∃ c, c = P.getD k p0 := ⟨_, rfl⟩
      rw [← hc] at e0 e1
      have hal : Below n0 W (wr.alloc (.cells #[.int .i64 c.x, .int .i64 c.y] 40)) := hbl.out.alloc (Nat.le_trans HN0.out hbl.out.size) _
      have hcc := HC.out _ hal
      have hmod : (k + 1) % n < n := Nat.mod_lt _ (by omega)
      obtain ⟨b3, off3, hbo, g0, g1⟩ := (HP.out _ hal).at hmod
      cases hbo
      obtain ⟨d, hd⟩ : ∃ d, d = atP P (k + 1) := ⟨_, rfl⟩
      have hde : P.getD ((k + 1) % n) p0 = d := by rw [hd]; unfold atP; rw [HL.out]
      rw [hde] at g0 g1
      obtain ⟨q, hq⟩ : ∃ q, q = (k + 1) % n := ⟨_, rfl⟩
      rw [← hq] at g0 g1 hmod
      have hq0 : (0 : Int) ≤ (q : Int) := by omega
      have hq1 : (q : Int) < (n : Int) := by omega
      have hrem : Int.tmod ((k : Int) + 1) (n : Int) = (q : Int) := by
        rw [Int.tmod_eq_emod_of_nonneg (by omega), hq, Int.natCast_emod]; rfl
      obtain ⟨x, hx⟩ : ∃ x : Fin P.length, x = ⟨k, by rw [HL.out]; exact hlt⟩ := ⟨_, rfl⟩
      have HT : Hid ((edgesL P).take (k + 1) = (edgesL P).take k ++ [x]) := Lib.hid (by rw [hx]; exact edgesL_take _)
      have q0 : (wr.alloc (.cells #[.int .i64 c.x, .int .i64 c.y] 40)).cell? ⟨wr.heap.size, 0, none⟩ = some (.int .i64 c.x) := cell_of_row _ _ _ _ _ _ (alloc_new _ _)
      have q1 : (wr.alloc (.cells #[.int .i64 c.x, .int .i64 c.y] 40)).cell? ⟨wr.heap.size, 1, none⟩ = some (.int .i64 c.y) := cell_of_row _ _ _ _ _ _ (alloc_new _ _)
      have HBL := Lib.hid hal
      have HK := Lib.hid hk
      obtain ⟨fn, tmps, assign, body, hy, hR⟩ := HY.out ((edgesL P).take k) x (wr.alloc (.cells #[.int .i64 c.x, .int .i64 c.y] 40)).drew
        (HJ.out _ _ _ none hj.out ⟨rfl, rfl, rfl, by simp, fun j hj _ => Below.heap_alloc _ _ _ hj⟩ (fun r e => by cases e)) (by rw [List.length_take, edgesL_length, HL.out]; omega)
      have hR2 := hR.mono (R' := fun e W' => ∃ r, e = .returned (.bool r) ∧ Hid ((r = true ∧ J ((edgesL P).take k ++ [x]) W' ∧ Below n0 (wr.alloc (.cells #[.int .i64 c.x, .int .i64 c.y] 40)).drew W') ∨ (r = false ∧ Jx ((edgesL P).take k ++ [x]) W'))) (fun e W' h => by
        rcases h with ⟨rfl, h1, h2⟩ | ⟨rfl, h1⟩
        · exact ⟨true, rfl, Lib.hid (.inl ⟨rfl, h1, h2⟩)⟩
        · exact ⟨false, rfl, Lib.hid (.inr ⟨rfl, h1⟩)⟩)
      have HR := Lib.hid hR2
      have henc : encE P x = #[.int .i64 k, .agg #[.int .i64 c.x, .int .i64 c.y, .int .i64 d.x, .int .i64 d.y]] := by rw [hx, hc, hd]; rfl
      rw [henc] at hy
      clear hc hd hde hq hal hR hR2 henc hx
      have hz : ((n : Int) == 0) = false := by simp; omega
      have hwr : IntKind.i64.wrap ((k : Int) + 1) = (k : Int) + 1 := IntWalk.i64_in _ (by omega)
      have hkp : (0 : Int) ≤ (k : Int) + 1 := by omega
      have HPK := Lib.hid (And.intro HJ.out (And.intro HY.out (And.intro H0.out (And.intro HP.out (And.intro HC.out (And.intro HN0.out hj.out))))))
      clear HJ HY H0 HP HC HN0 hj hk hlt hmod hbl hs hcm hnc
      gi_wp2_with fail
      gi_region_with (refine HR.out.mono ?_; rintro e W3 ⟨r, rfl, hr3⟩)
      all_goals (clear q0 q1 hcc e0 e1 g0 g1)
      all_goals (have HR3 := Lib.hid hr3)
      all_goals (clear hr3)
      all_goals (cases r)
      all_goals (gi_wp2_with fail)
      all_goals first
        | (refine bodyPost_ret (results_none rfl _ _ _) rfl ?_
           rcases HR3.out.out with ⟨h, _⟩ | ⟨_, h1⟩
           · cases h
           · refine ⟨⟨_, rfl⟩, .inr ⟨(edgesL P).take (k + 1), List.take_prefix _ _, ?_⟩⟩
             rw [HT.out]; exact h1)
        | (go_roundw
           case rel =>
             rcases HR3.out.out with ⟨_, h1, h2⟩ | ⟨h, _⟩
             · refine ⟨k + 1, by have := HK.out; omega, by go_num, ?_, ?_⟩
               · rw [HT.out]; exact h1
               · exact Lib.hid (HBL.out.trans ⟨h2.os, h2.tape, h2.output, h2.size, h2.block⟩)
             · cases h
           case measure => simp [intOf]; omega)
    · obtain rfl : n = k := by omega
      gi_wp2_with fail
      go_end0
      refine ⟨⟨_, rfl⟩, .inl ⟨_, rfl, ?_⟩⟩
      have := hj.out
      rw [List.take_of_length_le (by rw [edgesL_length, HL.out]; exact Nat.le_refl _)] at this
      exact this
end Go.Proofs.YtdikecfplohpeaaGreat

/- ring.bad, ring.at, ring.size -/
set_option linter.unusedSimpArgs false
set_option linter.unusedVariables false
namespace Go.Proofs.YtdikecfplohpeaaGreat
open Go.RowKit Go.Geo
attribute [local go_sem] Oper.semAt_some
/-- a fault, as a value. -/
def faultV (x : Int × Int) : Value := .agg #[.int .i64 x.1, .int .i64 x.2]
theorem load_two {t : TypeId} (ha : ∀ w, (isAgg t).run Tryz.prog w = .ok true w) (hz : ∀ w, (Go.sizeOf t).run Tryz.prog w = .ok 2 w) {w : World} {g : Nat} {a b : Value} (hg : w.heap[g]? = some (.cells #[a, b] t (0, 0))) : (loadVar t ⟨g, 0, none⟩).run Tryz.prog w = .ok (.agg #[a, b]) w := by
  have c0 : w.cell? ⟨g, 0, none⟩ = some a := cell_of_row _ _ _ _ _ _ hg
  have c1 : w.cell? ⟨g, 1, none⟩ = some b := cell_of_row _ _ _ _ _ _ hg
  have hl : (loadCells ⟨g, 0, none⟩ 2).run Tryz.prog w = .ok #[a, b] w :=
    run_loadCells_list (P := Tryz.prog) w ⟨g, 0, none⟩ [a, b] (fun j v hv => by
      have hadd : (⟨g, 0, none⟩ : Addr).add j = ⟨g, j, none⟩ := by unfold Addr.add; split <;> simp_all
      rw [hadd]
      match j, hv with
      | 0, hv => cases hv; exact c0
      | 1, hv => cases hv; exact c1)
  simp [loadVar, Sem.run_bind, ha, hz, hl, Result.andThen_ok]
theorem results_fault {fn : Func} {p u : Tmp} (h : fn.results = #[.cell p 32, .tmp u]) {tmps : Array Value} {w : World} {g : Nat} {a b : Value}
    (hp : tmps.getD p undef = .pointer (some ⟨g, 0, none⟩)) (hg : w.heap[g]? = some (.cells #[a, b] 32 (0, 0))) :
    (results fn tmps).run Tryz.prog w = .ok (.tuple #[.agg #[a, b], tmps.getD u undef]) w := by
  rw [results_cell_tmp h, hp]
  simp [asAddr, load_two (fun w => by kernel_rfl) (fun w => by kernel_rfl) hg, Result.andThen_ok]
theorem results_point {fn : Func} {p : Tmp} (h : fn.results = #[.cell p 40]) {tmps : Array Value} {w : World} {g : Nat} {a b : Value}
    (hp : tmps.getD p undef = .pointer (some ⟨g, 0, none⟩)) (hg : w.heap[g]? = some (.cells #[a, b] 40 (0, 0))) :
    (results fn tmps).run Tryz.prog w = .ok (.agg #[a, b]) w := by
  exact results_cell_row h tmps w g _ _ _ _ hp hg Tryz.underlying40 rfl (by kernel_rfl)
set_option maxRecDepth 100000 in
theorem bad_any (e a : Int) (w : World) : Calls Tryz.prog 82 #[.int .i64 e, .int .i64 a] w fun en w' => en = .returned (.tuple #[faultV (e, a), .bool true]) ∧ Grew w w' := by
  unfold faultV
  go_enter Tryz.func82, Tryz.ntmps82
  go_wp2_with fail
  exact bodyPost_ret (results_fault rfl rfl (alloc_new _ _)) rfl ⟨rfl, (Grew.refl _).alloc _⟩
theorem at_mod {i : Int} {n : Nat} (hn : 0 < n) (h0 : -1 ≤ i) (h1 : i ≤ n) : Int.tmod (Int.tmod i n + n) n = (((i + n).toNat % n : Nat) : Int) := by
  have e1 : Int.tmod i n = i - n * Int.tdiv i n := Int.tmod_def _ _
  have hp : 0 ≤ Int.tmod i n + n := by
    have := Int.lt_tmod_of_pos i (show (0 : Int) < n by omega)
    omega
  rw [Int.tmod_eq_emod_of_nonneg hp, e1]
  rw [show i - (n : Int) * Int.tdiv i n + n = i + n + (n : Int) * (- Int.tdiv i n) by rw [Int.mul_neg]; omega]
  rw [Int.add_mul_emod_self_left]
  rw [Int.natCast_emod, Int.toNat_of_nonneg (by omega)]
set_option maxRecDepth 100000 in
theorem at_any (i : Int) (ao : Option Addr) (n cap : Nat) (P : List Pt) (w : World) (h : IsPts w ao n cap P) (hn : 0 < n) (hs : n ≤ 1048576) (h0 : -1 ≤ i) (h1 : i ≤ n) : Calls Tryz.prog 85 #[.slice ao n cap, .int .i64 i] w fun e w' => e = .returned (ptV (atP P (i + n).toNat)) ∧ Grew w w' := by
  have hm := at_mod hn h0 h1
  have hcm := h.2.2.1
  have hnc := h.2.1
  unfold maxLen at hcm
  obtain ⟨k, hk⟩ : ∃ k, k = (i + n).toNat % n := ⟨_, rfl⟩
  rw [← hk] at hm
  have hkn : k < n := by rw [hk]; exact Nat.mod_lt _ hn
  have HV : Hid (atP P (i + n).toNat = P.getD k p0) := Lib.hid (by unfold atP; rw [h.1, hk])
  have hw : wrap64 (i.tmod n + n) = i.tmod n + n := by
    have a1 := Int.lt_tmod_of_pos i (show (0 : Int) < n by omega)
    have a2 := Int.tmod_lt_of_pos i (show (0 : Int) < n by omega)
    unfold wrap64
    omega
  obtain ⟨b, off, rfl, e0, e1⟩ := (h.grew ((Grew.refl _).alloc (.cells #[.int .i64 0, .int .i64 0] 40))).at hkn
  rw [← hw] at hm
  have hk0 : (0 : Int) ≤ (k : Int) := by omega
  have hk1 : (k : Int) < (n : Int) := by omega
  clear hk h hw
  go_enter Tryz.func85, Tryz.ntmps85
  go_wp2_with fail
  refine bodyPost_ret (results_point rfl rfl (alloc_new _ _)) rfl ⟨?_, (Grew.refl _).alloc _⟩
  rw [HV.out]
  simp [ptV]
end Go.Proofs.YtdikecfplohpeaaGreat

/- ring.size -/
set_option linter.unusedSimpArgs false
set_option linter.unusedVariables false
namespace Go.Proofs.YtdikecfplohpeaaGreat
open Go.RowKit Go.Geo
attribute [local go_sem] Oper.semAt_some
/-- what a look at a ring tells: a fault, or none. -/
def lookV (o : Option (Int × Int)) : Value := match o with
  | some x => .tuple #[faultV x, .bool true]
  | none => .tuple #[faultV (0, 0), .bool false]
theorem put_two {w : World} {g : Nat} {t : TypeId} {a b : Value} (h : w.heap[g]? = some (.cells #[a, b] t (0, 0))) (x y : Value) : ((w.setCell ⟨g, 0, none⟩ x).setCell ⟨g, 1, none⟩ y).heap[g]? = some (.cells #[x, y] t (0, 0)) :=
  heap_setCell_same _ _ 1 _ _ _ (heap_setCell_same _ _ 0 _ _ _ h)
/-- the fault's cell, after a call that grew the memory. -/
theorem fault_cells {w w2 : World} (hg : Grew (w.alloc (.cells #[.int .i64 0, .int .i64 0] 32)) w2) : w2.cell? ⟨w.heap.size, 0, none⟩ = some (.int .i64 0) ∧ w2.cell? ⟨w.heap.size, 1, none⟩ = some (.int .i64 0) ∧ w2.frozen? ⟨w.heap.size, 0, none⟩ = false ∧ w2.frozen? ⟨w.heap.size, 1, none⟩ = false ∧ Hid (Grew w w2 ∧ w2.heap[w.heap.size]? = some (.cells #[.int .i64 0, .int .i64 0] 32 (0, 0))) := by
  have hr := (hg.1.block w.heap.size (by simp)).trans (alloc_new _ _)
  exact ⟨cell_of_row _ _ _ _ _ _ hr, cell_of_row _ _ _ _ _ _ hr, frozen_of_row _ _ _ _ _ hr, frozen_of_row _ _ _ _ _ hr, Lib.hid ⟨((Grew.refl w).alloc _).trans hg, hr⟩⟩
/-- the end of a look: its result stands in the fault's cell. -/
theorem look_end {fn : Func} {p u : Tmp} {o : Option (Int × Int)} {w w2 w3 : World} {a : Act} {x y : Int} {bb : Bool} (h : fn.results = #[.cell p 32, .tmp u]) (hp : a.tmps.getD p undef = .pointer (some ⟨w.heap.size, 0, none⟩)) (hu : a.tmps.getD u undef = .bool bb) (hd : a.defers = [])
    (hr : Hid (Grew w w2 ∧ w2.heap[w.heap.size]? = some (.cells #[.int .i64 0, .int .i64 0] 32 (0, 0)))) (hw : w3 = (w2.setCell ⟨w.heap.size, 0, none⟩ (.int .i64 x)).setCell ⟨w.heap.size, 1, none⟩ (.int .i64 y)) (ho : lookV o = .tuple #[faultV (x, y), .bool bb]) :
    bodyPost Tryz.prog fn (fun e w' => e = .returned (lookV o) ∧ Grew w w') .ret a w3 := by
  subst hw
  refine bodyPost_ret (results_fault h hp (put_two hr.out.2 _ _)) hd ⟨?_, grew_setCell (grew_setCell hr.out.1 (Nat.le_refl _) _) (Nat.le_refl _) _⟩
  rw [ho, hu]
  rfl
def sizeL (n : Nat) : Option (Int × Int) := if 200 < n then some (3, 0) else if n < 3 then some (190, 0) else none
set_option maxRecDepth 100000 in
theorem size_any (ao : Option Addr) (n cap : Nat) (w : World) (hm : n ≤ maxLen) : Calls Tryz.prog 52 #[.slice ao n cap] w fun e w' => e = .returned (lookV (sizeL n)) ∧ Grew w w' := by
  have HB := Lib.hid bad_any
  unfold maxLen at hm
  obtain ⟨o, ho⟩ : ∃ o, o = sizeL n := ⟨_, rfl⟩
  have HO := Lib.hid ho
  rw [← ho]
  clear ho
  go_enter Tryz.func52, Tryz.ntmps52
  by_cases h1 : 200 < n
  · have hi : (200 : Int) < (n : Int) := by omega
    obtain rfl : o = some (3, 0) := by rw [HO.out]; unfold sizeL; rw [if_pos h1]
    go_wp2_with fail
    refine (HB.out 3 0 _).mono ?_
    rintro e w2 ⟨rfl, hg⟩
    unfold faultV
    obtain ⟨c0, c1, f0, f1, HG⟩ := fault_cells hg
    clear hg
    go_wp2_with fail
    exact look_end rfl rfl rfl rfl HG rfl rfl
  · have hi : ¬ ((200 : Int) < (n : Int)) := by omega
    by_cases h2 : n < 3
    · have hi2 : (n : Int) < 3 := by omega
      obtain rfl : o = some (190, 0) := by rw [HO.out]; unfold sizeL; rw [if_neg h1, if_pos h2]
      go_wp2_with fail
      refine (HB.out 190 0 _).mono ?_
      rintro e w2 ⟨rfl, hg⟩
      unfold faultV
      obtain ⟨c0, c1, f0, f1, HG⟩ := fault_cells hg
      clear hg
      go_wp2_with fail
      exact look_end rfl rfl rfl rfl HG rfl rfl
    · have hi2 : ¬ ((n : Int) < 3) := by omega
      obtain rfl : o = none := by rw [HO.out]; unfold sizeL; rw [if_neg h1, if_neg h2]
      go_wp2_with fail
      exact bodyPost_ret (results_fault rfl rfl (alloc_new _ _)) rfl ⟨rfl, (Grew.refl _).alloc _⟩
end Go.Proofs.YtdikecfplohpeaaGreat

/- ring.ahead -/
set_option linter.unusedSimpArgs false
set_option linter.unusedVariables false
namespace Go.Proofs.YtdikecfplohpeaaGreat
open Go.RowKit Go.Geo
attribute [local go_sem] Oper.semAt_some
theorem heap_lt' {w : World} {j : Nat} {o : Obj} (h : w.heap[j]? = some o) : j < w.heap.size := (Array.getElem?_eq_some_iff.1 h).1
def aheadL (l : List Pt) : Option (Int × Int) := (firstP l.length (backP l)).map fun i => (192, (i : Int))
set_option maxRecDepth 100000 in
set_option maxHeartbeats 1000000 in
theorem ahead_any (ao : Option Addr) (n cap : Nat) (P : List Pt) (w : World) (h : IsPts w ao n cap P) (hn : 0 < n) (hs : n ≤ 1048576) :
    Calls Tryz.prog 55 #[.slice ao n cap] w fun e w' => e = .returned (lookV (aheadL P)) ∧ Grew w w' := by
  have HB := Lib.hid bad_any
  have HAT : Hid (∀ (i : Int) (w : World), IsPts w ao n cap P → -1 ≤ i → i ≤ n → Calls Tryz.prog 85 #[.slice ao n cap, .int .i64 i] w fun e w' => e = .returned (ptV (atP P (i + n).toNat)) ∧ Grew w w') := Lib.hid (fun i w h h0 h1 => at_any i ao n cap P w h hn hs h0 h1)
  have HI := Lib.hid h
  have hl := h.1
  have hA : Grew w (w.alloc (.cells #[.int .i64 0, .int .i64 0] 32)) := (Grew.refl _).alloc _
  have HA := Lib.hid hA
  clear h hA
  go_enter Tryz.func55, Tryz.ntmps55
  go_wp2
  go_loopw [10] (fun i wr => ∃ k : Nat, k ≤ n ∧ i = .int .i64 k ∧ Hid (∀ j, j < k → backP P j = false) ∧ Hid (Grew (w.alloc (.cells #[.int .i64 0, .int .i64 0] 32)) wr)) (fun i _ => n - (intOf i).toNat)
  case atStart => exact ⟨0, by omega, rfl, (fun j hj => absurd hj (by omega)), Grew.refl _⟩
  case round =>
    obtain ⟨k, hk, rfl, hq, hb⟩ := hrel
    by_cases hlt : k < n
    · have hi0 : (0 : Int) ≤ (k : Int) := by omega
      have hi5 : (k : Int) < (n : Int) := by omega
      have hp := (HI.out.grew HA.out).grew hb.out
      obtain ⟨b, off, rfl, e0, e1⟩ := hp.at hlt
      obtain ⟨c, hc⟩ : ∃ c, c = P.getD k p0 := ⟨_, rfl⟩
      rw [← hc] at e0 e1
      have HP := Lib.hid hp
      have HC := Lib.hid hc
      clear hp hc
      obtain ⟨a, ha⟩ : ∃ a, a = atP P ((k : Int) - 1 + n).toNat := ⟨_, rfl⟩
      obtain ⟨d, hd⟩ : ∃ a, a = atP P ((k : Int) + 1 + n).toNat := ⟨_, rfl⟩
      have HAK := Lib.hid (fun w hw => HAT.out ((k : Int) - 1) w hw (by omega) (by omega))
      have HDK := Lib.hid (fun w hw => HAT.out ((k : Int) + 1) w hw (by omega) (by omega))
      rw [← ha] at HAK
      rw [← hd] at HDK
      have HBK : Hid (backP P k = (decide (turnP a c d = 0) && !onP c a d)) := Lib.hid (by
        unfold backP
        rw [HC.out, ha, hd]
        have e1 : ((k : Int) - 1 + n).toNat = k + P.length - 1 := by omega
        have e2 : atP P ((k : Int) + 1 + n).toNat = atP P (k + 1) := by
          unfold atP
          rw [show ((k : Int) + 1 + n).toNat = k + 1 + P.length by omega, Nat.add_mod_right]
        rw [e1, e2])
      unfold ptV at HAK HDK
      clear ha hd
      go_wp2_with fail
      refine (HAK.out _ (HP.out.grew ((Grew.refl _).alloc _))).mono ?_
      rintro e w2 ⟨rfl, g2⟩
      have r2 : w2.heap[wr.heap.size]? = _ := (g2.1.block wr.heap.size (by simp)).trans (alloc_new _ _)
      have H2 := Lib.hid (And.intro ((((Grew.refl wr).alloc (.cells #[.int .i64 c.x, .int .i64 c.y] 40))).trans g2) r2)
      clear g2 r2
      go_wp2_with fail
      refine (HDK.out _ (HP.out.grew H2.out.1)).mono ?_
      rintro e w3 ⟨rfl, g3⟩
      have r3 := (g3.1.block wr.heap.size (heap_lt' H2.out.2)).trans H2.out.2
      have q3 := heap_lt' r3
      have rC : ((w3.alloc (.cells #[.int .i64 a.x, .int .i64 a.y] 40)).alloc (.cells #[.int .i64 d.x, .int .i64 d.y] 40)).heap[wr.heap.size]? = _ := (Below.heap_alloc _ _ _ (by simp; omega)).trans ((Below.heap_alloc _ _ _ q3).trans r3)
      have rA : ((w3.alloc (.cells #[.int .i64 a.x, .int .i64 a.y] 40)).alloc (.cells #[.int .i64 d.x, .int .i64 d.y] 40)).heap[w3.heap.size]? = _ := (Below.heap_alloc _ _ _ (by simp)).trans (alloc_new _ _)
      have rD := alloc_new2 w3 (.cells #[.int .i64 a.x, .int .i64 a.y] 40) (.cells #[.int .i64 d.x, .int .i64 d.y] 40)
      have c0 : ((w3.alloc (.cells #[.int .i64 a.x, .int .i64 a.y] 40)).alloc (.cells #[.int .i64 d.x, .int .i64 d.y] 40)).cell? ⟨wr.heap.size, 0, none⟩ = some (.int .i64 c.x) := cell_of_row _ _ _ _ _ _ rC
      have c1 : ((w3.alloc (.cells #[.int .i64 a.x, .int .i64 a.y] 40)).alloc (.cells #[.int .i64 d.x, .int .i64 d.y] 40)).cell? ⟨wr.heap.size, 1, none⟩ = some (.int .i64 c.y) := cell_of_row _ _ _ _ _ _ rC
      have H3 := Lib.hid (And.intro (((H2.out.1.trans g3).alloc (.cells #[.int .i64 a.x, .int .i64 a.y] 40)).alloc (.cells #[.int .i64 d.x, .int .i64 d.y] 40)) (And.intro rC (And.intro rA rD)))
      have HT := Lib.hid (Turn_any a c d)
      have HON := Lib.hid (On_any c a d)
      unfold ptV at HT HON
      clear g3 r3 H2 q3 rC rA rD
      go_wp2_with fail
      refine (HT.out _).mono ?_
      rintro e w5 ⟨rfl, g5⟩
      have s1 := (g5.1.block _ (heap_lt' H3.out.2.1)).trans H3.out.2.1
      have s2 := (g5.1.block _ (heap_lt' H3.out.2.2.1)).trans H3.out.2.2.1
      have s3 := (g5.1.block _ (heap_lt' H3.out.2.2.2)).trans H3.out.2.2.2
      have H5 := Lib.hid (H3.out.1.trans g5)
      have d0 : w5.cell? ⟨wr.heap.size, 0, none⟩ = some (.int .i64 c.x) := cell_of_row _ _ _ _ _ _ s1
      have d1 : w5.cell? ⟨wr.heap.size, 1, none⟩ = some (.int .i64 c.y) := cell_of_row _ _ _ _ _ _ s1
      have d2 : w5.cell? ⟨w3.heap.size, 0, none⟩ = some (.int .i64 a.x) := cell_of_row _ _ _ _ _ _ s2
      have d3 : w5.cell? ⟨w3.heap.size, 1, none⟩ = some (.int .i64 a.y) := cell_of_row _ _ _ _ _ _ s2
      have d4 : w5.cell? ⟨w3.heap.size + 1, 0, none⟩ = some (.int .i64 d.x) := cell_of_row _ _ _ _ _ _ s3
      have d5 : w5.cell? ⟨w3.heap.size + 1, 1, none⟩ = some (.int .i64 d.y) := cell_of_row _ _ _ _ _ _ s3
      clear g5 s1 s2 s3 H3 c0 c1
      by_cases ht : turnP a c d = 0
      · go_wp2_with fail
        refine (HON.out _).mono ?_
        rintro e w6 ⟨rfl, g6⟩
        have H6 := Lib.hid (H5.out.trans g6)
        clear g6
        obtain ⟨ho, hho⟩ : ∃ ho, ho = onP c a d := ⟨_, rfl⟩
        rw [← hho]
        have HHO := Lib.hid hho
        clear hho
        cases ho
        · go_wp2_with fail
          refine (HB.out 192 k _).mono ?_
          rintro e w7 ⟨rfl, g7⟩
          unfold faultV
          obtain ⟨k0, k1, f0, f1, HG⟩ := fault_cells (hb.out.trans (H6.out.trans g7))
          clear g7
          go_wp2_with fail
          change bodyPost Tryz.prog Tryz.f55 (fun e w' => e = .returned (lookV (aheadL P)) ∧ Grew w w') .ret _ _
          refine look_end rfl rfl rfl rfl HG rfl ?_
          have : aheadL P = some (192, (k : Int)) := by
            unfold aheadL
            rw [hl, firstP_some hlt (by rw [HBK.out, ← HHO.out, ht]; rfl) hq.out]
            rfl
          rw [this]; rfl
        · go_wp2_with fail
          refine ⟨⟨k + 1, by omega, by simp, Lib.hid fun j hj => ?_, Lib.hid (hb.out.trans H6.out)⟩, by simp [intOf]; omega⟩
          by_cases hik : j < k
          · exact hq.out j hik
          · obtain rfl : j = k := by omega
            rw [HBK.out, ← HHO.out, ht]; rfl
      · go_wp2_with fail
        refine ⟨⟨k + 1, by omega, by simp, Lib.hid fun j hj => ?_, Lib.hid (hb.out.trans H5.out)⟩, by simp [intOf]; omega⟩
        by_cases hik : j < k
        · exact hq.out j hik
        · obtain rfl : j = k := by omega
          rw [HBK.out, decide_eq_false ht]; rfl
    · obtain rfl : k = n := by omega
      have hi5 : ¬ ((k : Int) < (k : Int)) := by omega
      have hr := (hb.out.1.block w.heap.size (by simp)).trans (alloc_new _ _)
      obtain ⟨c0, c1, f0, f1, HG⟩ := fault_cells hb.out
      clear hr
      go_wp2_with fail
      refine look_end rfl rfl rfl rfl HG rfl ?_
      have : aheadL P = none := by unfold aheadL; rw [hl, firstP_none hq.out]; rfl
      rw [this]; rfl
end Go.Proofs.YtdikecfplohpeaaGreat

/- ring.valid -/
set_option linter.unusedSimpArgs false
set_option linter.unusedVariables false
namespace Go.Proofs.YtdikecfplohpeaaGreat
open Go.RowKit Go.Geo
attribute [local go_sem] Oper.semAt_some
def firstZ (n : Nat) (f : Nat → Bool) : Int := match firstP n f with
  | some i => (i : Int)
  | none => -1
theorem badp_any (p : Pt) (w : World) : Calls Tryz.prog 84 #[ptV p] w fun e w' => e = .returned (.bool (!validP p)) ∧ Grew w w' := by
  have HV := Lib.hid (Valid_any p)
  have hA : Grew w (w.alloc (.cells #[.int .i64 p.x, .int .i64 p.y] 40)) := (Grew.refl _).alloc _
  have HA := Lib.hid hA
  clear hA
  unfold ptV at HV ⊢
  go_enter Tryz.func84, Tryz.ntmps84
  go_wp2_with fail
  refine (HV.out _).mono ?_
  rintro e w1 ⟨rfl, hb1⟩
  go_wp2_with fail
  go_ret
  exact ⟨rfl, HA.out.trans hb1⟩
set_option maxRecDepth 100000 in
theorem IndexFn_any (ao : Option Addr) (n cap : Nat) (P : List Pt) (w : World) (h : IsPts w ao n cap P) :
    Calls Tryz.prog 83 #[.slice ao n cap, .func (.func 84) #[] #[]] w fun e w' => e = .returned (.int .i64 (firstZ n (fun i => !validP (P.getD i p0)))) ∧ Grew w w' := by
  have hcm := h.2.2.1
  have hnc := h.2.1
  unfold maxLen at hcm
  have HI := Lib.hid h
  clear h
  obtain ⟨z, hz⟩ : ∃ z, z = firstZ n (fun i => !validP (P.getD i p0)) := ⟨_, rfl⟩
  rw [← hz]
  have HZ := Lib.hid hz
  clear hz
  go_enter Tryz.func83, Tryz.ntmps83
  go_wp2
  go_loopw [8] (fun i wr => ∃ k : Nat, k ≤ n ∧ i = .int .i64 k ∧ Hid (∀ i, i < k → (!validP (P.getD i p0)) = false) ∧ Hid (Grew w wr)) (fun i _ => n - (intOf i).toNat)
  case atStart => exact ⟨0, by omega, rfl, fun i hi => absurd hi (by omega), Grew.refl _⟩
  case round =>
    obtain ⟨k, hk, rfl, hall, hbl⟩ := hrel
    by_cases hlt : k < n
    · have hi0 : (0 : Int) ≤ (k : Int) := by omega
      have hi5 : (k : Int) < (n : Int) := by omega
      obtain ⟨b, off, rfl, e0, e1⟩ := (HI.out.grew hbl.out).at hlt
      obtain ⟨c, hc⟩ : ∃ c, c = P.getD k p0 := ⟨_, rfl⟩
      rw [← hc] at e0 e1
      have HCE := Lib.hid hc
      obtain ⟨p, hp⟩ : ∃ p, p = !validP c := ⟨_, rfl⟩
      have HX := Lib.hid (badp_any c)
      rw [← hp] at HX
      unfold ptV at HX
      have HP := Lib.hid hp
      clear hc hp
      cases p with
      | true =>
        go_wp2_with fail
        refine (HX.out _).mono ?_
        rintro e w1 ⟨rfl, hb1⟩
        go_wp2_with fail
        go_ret
        refine ⟨?_, hbl.out.trans hb1⟩
        rw [HZ.out]
        unfold firstZ
        rw [firstP_some hlt (by rw [← HCE.out]; exact HP.out.symm) hall.out]
        rfl
      | false =>
        go_wp2_with fail
        refine (HX.out _).mono ?_
        rintro e w1 ⟨rfl, hb1⟩
        go_wp2_with fail
        go_roundw
        case rel =>
          refine ⟨k + 1, by omega, by go_num, fun i hi => ?_, hbl.out.trans hb1⟩
          by_cases hik : i < k
          · exact hall.out i hik
          · obtain rfl : i = k := by omega
            rw [← HCE.out]; exact HP.out.symm
        case measure => simp [intOf]; omega
    · obtain rfl : k = n := by omega
      go_wp2
      go_ret
      refine ⟨?_, hbl.out⟩
      rw [HZ.out]
      unfold firstZ
      rw [firstP_none hall.out]
      rfl
def validL (l : List Pt) : Option (Int × Int) := (firstP l.length (fun i => !validP (l.getD i p0))).map fun i => (2, (i : Int))
set_option maxRecDepth 100000 in
theorem valid1_any (ao : Option Addr) (n cap : Nat) (P : List Pt) (w : World) (h : IsPts w ao n cap P) :
    Calls Tryz.prog 53 #[.slice ao n cap] w fun e w' => e = .returned (lookV (validL P)) ∧ Grew w w' := by
  have HB := Lib.hid bad_any
  have hA : Grew w (w.alloc (.cells #[.int .i64 0, .int .i64 0] 32)) := (Grew.refl _).alloc _
  have HX := Lib.hid (IndexFn_any ao n cap P _ (h.grew hA))
  have hl := h.1
  obtain ⟨o, ho⟩ : ∃ o, o = firstP n (fun i => !validP (P.getD i p0)) := ⟨_, rfl⟩
  have HL : Hid (validL P = o.map fun i => (2, (i : Int))) := Lib.hid (by unfold validL; rw [hl, ho])
  unfold firstZ at HX
  rw [← ho] at HX
  clear h hA ho
  cases o with
  | none =>
    dsimp only at HX
    go_enter Tryz.func53, Tryz.ntmps53
    go_wp2_with fail
    refine HX.out.mono ?_
    rintro e w1 ⟨rfl, hb1⟩
    obtain ⟨k0, k1, f0, f1, HG⟩ := fault_cells hb1
    clear hb1
    go_wp2_with fail
    refine look_end rfl rfl rfl rfl HG rfl ?_
    rw [HL.out]; rfl
  | some k =>
    have hk0 : (0 : Int) ≤ (k : Int) := by omega
    dsimp only at HX
    go_enter Tryz.func53, Tryz.ntmps53
    go_wp2_with fail
    refine HX.out.mono ?_
    rintro e w1 ⟨rfl, hb1⟩
    have HB1 := Lib.hid hb1
    clear hb1
    go_wp2_with fail
    refine (HB.out 2 k _).mono ?_
    rintro e w2 ⟨rfl, hg⟩
    unfold faultV
    obtain ⟨k0, k1, f0, f1, HG⟩ := fault_cells (HB1.out.trans hg)
    clear hg
    go_wp2_with fail
    refine look_end rfl rfl rfl rfl HG rfl ?_
    rw [HL.out]; rfl
end Go.Proofs.YtdikecfplohpeaaGreat

/- points as keys of a map -/
set_option linter.unusedSimpArgs false
set_option linter.unusedVariables false
namespace Go.Proofs.YtdikecfplohpeaaGreat
open Go.RowKit Go.Geo Go.Maps
theorem laidOutQ : laidOutB Tryz.prog = true := by kernel_rfl
theorem rowPt : (40 : TypeId) < Tryz.prog.types.size := of_decide_eq_true (by kernel_rfl)
theorem widePt : (match Tryz.prog.underlying 40 with | some (.array _ _) | some (.struct _) => true | _ => false) = true := by rw [Tryz.underlying40]
set_option maxRecDepth 100000 in
theorem keyedPt : Keyed Tryz.prog 40 := Keyed.of_law (deep_law_laid laidOutQ (m := 2) (by omega) rowPt (by kernel_rfl) widePt)
theorem wf_i64 {a : Int} (h : -9223372036854775808 ≤ a) (k : a ≤ 9223372036854775807) : (Lit.int .i64 a).wf = true := by
  have e1 : IntKind.i64.min = -9223372036854775808 := by decide
  have e2 : IntKind.i64.max = 9223372036854775807 := by decide
  unfold Lit.wf
  dsimp only
  rw [e1, e2]
  simp [h, k]
/-- a point's key. -/
def keyL (p : Pt) : Lit := .string (keyBytes [.int .i64 p.x, .int .i64 p.y])
theorem key_pt {p : Pt} (h : validP p = true) : keyOf Tryz.prog 40 (ptV p) = some (keyL p) := by
  have hv := (validP_iff _).1 h
  have wx : (Lit.int .i64 p.x).wf = true := wf_i64 (by omega) (by omega)
  have wy : (Lit.int .i64 p.y).wf = true := wf_i64 (by omega) (by omega)
  have hk : Tryz.prog.keyType 40 = true := by kernel_rfl
  have hf : (ptV p).formed Tryz.prog 40 = true := by simp [ptV, Value.formed, Tryz.underlying40]; kernel_rfl
  unfold keyOf
  rw [Tryz.underlying40]
  dsimp only
  rw [hk, hf]
  obtain ⟨m, hm⟩ : ∃ m, Tryz.prog.types.size = m + 1 := ⟨_, (Nat.sub_add_cancel (Nat.lt_of_le_of_lt (Nat.zero_le _) rowPt)).symm⟩
  have h2 : Tryz.prog.cellsOf 40 = 2 := by kernel_rfl
  have h1 : Tryz.prog.cellsOf 3 = 1 := by kernel_rfl
  rw [hm]
  unfold Program.keyLits
  simp only [Tryz.underlying40]
  have hl : (ptV p).cells.toList = [.int .i64 p.x, .int .i64 p.y] := rfl
  have hi : ∀ z : Int, (Lit.int .i64 z).wf = true → Tryz.prog.keyLits (m + 1) 3 [.int .i64 z] = some [.int .i64 z] := fun z hz => by
    unfold Program.keyLits
    rw [Tryz.underlying3]
    dsimp only
    rw [if_pos ⟨rfl, hz⟩]
  rw [hl, h2]
  split
  · split
    · simp only [List.mapM_cons, List.mapM_nil, h1, List.drop, List.take, hi _ wx, hi _ wy]
      rfl
    · rename_i hh
      exact absurd ⟨rfl, by simp⟩ hh
  · rename_i hh
    exact absurd rfl hh
theorem keyL_is {p : Pt} (h : validP p = true) : keyOf Tryz.prog 40 (ptV p) = some (keyL p) := key_pt h
theorem ptV_inj {p q : Pt} (h : ptV p = ptV q) : p = q := by
  obtain ⟨a, b⟩ := p
  obtain ⟨c, d⟩ := q
  unfold ptV at h
  injection h with h
  have h := congrArg Array.toList h
  simp at h
  rw [h.1, h.2]
/-- the set of the points before. -/
noncomputable def setP {H : Type} (l : List Pt) : DataW H := setOf (.agg []) (l.map keyL)
theorem has_setP {H : Type} {l : List Pt} {p : Pt} (hl : ∀ v ∈ l, validP v = true) (h : validP p = true) : Maps.has (setP (H := H) l) (keyL p) = decide (p ∈ l) := by
  unfold setP
  rw [has_setOf _ _ _ (fun y hy => by obtain ⟨v, hv, rfl⟩ := List.mem_map.1 hy; exact keyedPt.key (keyL_is (hl v hv)))]
  rw [Bool.eq_iff_iff, List.any_eq_true, decide_eq_true_eq]
  constructor
  · rintro ⟨y, hy, hs⟩
    obtain ⟨v, hv, rfl⟩ := List.mem_map.1 hy
    have e := WideAt.sameKey_eq hs
    have k1 := keyL_is (hl v hv)
    have k2 := keyL_is h
    rw [e] at k1
    rw [← ptV_inj (keyedPt.inj k1 k2)]
    exact hv
  · intro hp
    exact ⟨keyL p, List.mem_map.2 ⟨p, hp, rfl⟩, WideAt.sameKey_self (keyedPt.key (keyL_is h))⟩
theorem setP_snoc {H : Type} (l : List Pt) (p : Pt) : setP (H := H) (l ++ [p]) = (setP l).put (keyL p) (.agg []) := by
  unfold setP
  rw [List.map_append, List.map_singleton, setOf_snoc]
end Go.Proofs.YtdikecfplohpeaaGreat

/- ring.unlike -/
set_option linter.unusedSimpArgs false
set_option linter.unusedVariables false
namespace Go.Proofs.YtdikecfplohpeaaGreat
open Go.RowKit Go.Geo Go.Maps
attribute [local go_sem] Oper.semAt_some
def unlikeL (l : List Pt) : Option (Int × Int) := (firstP l.length (twiceP l)).map fun i => (191, (i : Int))
theorem zeroUnit (w : World) : (zeroValue 113).run Tryz.prog w = .ok (.agg #[]) w := by kernel_rfl
theorem setP_nil {H : Type} : setP (H := H) [] = .map [] := rfl
/-- as fault_cells, look_end: where nothing is said of draws. -/
theorem fault_cellsB {w w2 : World} (hg : Below (w.heap.size + 1) (w.alloc (.cells #[.int .i64 0, .int .i64 0] 32)) w2) : w2.cell? ⟨w.heap.size, 0, none⟩ = some (.int .i64 0) ∧ w2.cell? ⟨w.heap.size, 1, none⟩ = some (.int .i64 0) ∧ w2.frozen? ⟨w.heap.size, 0, none⟩ = false ∧ w2.frozen? ⟨w.heap.size, 1, none⟩ = false ∧ Hid (Below w.heap.size w w2 ∧ w2.heap[w.heap.size]? = some (.cells #[.int .i64 0, .int .i64 0] 32 (0, 0))) := by
  have hr := (hg.block w.heap.size (by simp)).trans (alloc_new _ _)
  exact ⟨cell_of_row _ _ _ _ _ _ hr, cell_of_row _ _ _ _ _ _ hr, frozen_of_row _ _ _ _ _ hr, frozen_of_row _ _ _ _ _ hr, Lib.hid ⟨((Below.refl _ w).alloc (Nat.le_refl _) _).trans (hg.mono (by simp)), hr⟩⟩
theorem look_endB {fn : Func} {p u : Tmp} {o : Option (Int × Int)} {w w2 w3 : World} {a : Act} {x y : Int} {bb : Bool} (h : fn.results = #[.cell p 32, .tmp u]) (hp : a.tmps.getD p undef = .pointer (some ⟨w.heap.size, 0, none⟩)) (hu : a.tmps.getD u undef = .bool bb) (hd : a.defers = [])
    (hr : Hid (Below w.heap.size w w2 ∧ w2.heap[w.heap.size]? = some (.cells #[.int .i64 0, .int .i64 0] 32 (0, 0)))) (hw : w3 = (w2.setCell ⟨w.heap.size, 0, none⟩ (.int .i64 x)).setCell ⟨w.heap.size, 1, none⟩ (.int .i64 y)) (ho : lookV o = .tuple #[faultV (x, y), .bool bb]) :
    bodyPost Tryz.prog fn (fun e w' => e = .returned (lookV o) ∧ Below w.heap.size w w') .ret a w3 := by
  subst hw
  refine bodyPost_ret (results_fault h hp (put_two hr.out.2 _ _)) hd ⟨?_, (hr.out.1.setCell (p := ⟨w.heap.size, 0, none⟩) (Nat.le_refl _) _).setCell (p := ⟨w.heap.size, 1, none⟩) (Nat.le_refl _) _⟩
  rw [ho, hu]
  rfl
set_option maxRecDepth 100000 in
set_option maxHeartbeats 1000000 in
theorem unlike_any (ao : Option Addr) (n cap : Nat) (P : List Pt) (w : World) (h : IsPts w ao n cap P) (hv : ∀ v ∈ P, validP v = true) :
    Calls Tryz.prog 54 #[.slice ao n cap] w fun e w' => e = .returned (lookV (unlikeL P)) ∧ Below w.heap.size w w' := by
  have HB := Lib.hid bad_any
  have HI := Lib.hid h
  have hl := h.1
  have hcm := h.2.2.1
  have hnc := h.2.1
  unfold maxLen at hcm
  have HV := Lib.hid hv
  have hA : Grew w (w.alloc (.cells #[.int .i64 0, .int .i64 0] 32)) := (Grew.refl _).alloc _
  have HA := Lib.hid hA
  have hmm := @run_makeMap Tryz.prog
  clear h hA hv
  go_enter Tryz.func54, Tryz.ntmps54
  go_wp2
  go_loopw [12] (fun i wr => ∃ k : Nat, k ≤ n ∧ i = .int .i64 k ∧ Hid (∀ j, j < k → twiceP P j = false) ∧ Hid (wr.ownsMap Tryz.prog 40 unitElem (w.heap.size + 1) k (setP (H := Unit) (P.take k))) ∧ Hid (Below (w.heap.size + 1) ((w.alloc (.cells #[.int .i64 0, .int .i64 0] 32)).alloc (.map #[] 0)) wr ∧ w.heap.size + 2 ≤ wr.heap.size)) (fun i _ => n - (intOf i).toNat)
  case atStart =>
    refine ⟨0, by omega, rfl, (fun j hj => absurd hj (by omega)), ?_, ?_⟩
    · rw [List.take_zero, setP_nil]
      have := World.ownsMap_made (H := Unit) (w.alloc (.cells #[.int .i64 0, .int .i64 0] 32)) Tryz.prog 40 unitElem
      exact Lib.hid (by simpa using this)
    · exact Lib.hid ⟨Below.refl _ _, by simp⟩
  case round =>
    obtain ⟨k, hk, rfl, hq, hown, hb⟩ := hrel
    by_cases hlt : k < n
    · have hi0 : (0 : Int) ≤ (k : Int) := by omega
      have hi5 : (k : Int) < (n : Int) := by omega
      have hbw : Below (w.heap.size + 1) (w.alloc (.cells #[.int .i64 0, .int .i64 0] 32)) wr := ((Below.refl _ _).alloc (by simp) _).trans hb.out.1
      obtain ⟨b, off, rfl, e0, e1⟩ := ((HI.out.grew HA.out).later hbw (by simp)).at hlt
      obtain ⟨c, hc⟩ : ∃ c, c = P.getD k p0 := ⟨_, rfl⟩
      rw [← hc] at e0 e1
      have hvc : validP c = true := HV.out c (by rw [hc, List.getD_eq_getElem?_getD, List.getElem?_eq_getElem (by omega)]; exact List.getElem_mem _)
      have hkey : keyOf Tryz.prog 40 (.agg #[.int .i64 c.x, .int .i64 c.y]) = some (keyL c) := key_pt hvc
      have HK := Lib.hid hkey
      obtain ⟨q, hqe⟩ : ∃ q, q = twiceP P k := ⟨_, rfl⟩
      have hhas : Maps.has (setP (H := Unit) (P.take k)) (keyL c) = q := by
        rw [hqe, has_setP (fun v hv => HV.out v (List.mem_of_mem_take hv)) hvc, hc]
        rfl
      have HT : Hid (P.take (k + 1) = P.take k ++ [c]) := Lib.hid (by rw [hc]; exact take_more (d := p0) (by omega))
      have HH := Lib.hid hhas
      have HQ := Lib.hid hqe
      have HBW := Lib.hid hbw
      have q0 : (wr.alloc (.cells #[.int .i64 c.x, .int .i64 c.y] 40)).cell? ⟨wr.heap.size, 0, none⟩ = some (.int .i64 c.x) := cell_of_row _ _ _ _ _ _ (alloc_new _ _)
      have q1 : (wr.alloc (.cells #[.int .i64 c.x, .int .i64 c.y] 40)).cell? ⟨wr.heap.size, 1, none⟩ = some (.int .i64 c.y) := cell_of_row _ _ _ _ _ _ (alloc_new _ _)
      have HLT : Hid (w.heap.size + 1 < wr.heap.size) := Lib.hid (by have := hb.out.2; omega)
      clear hc hvc hkey hqe hhas hbw
      cases q with
      | true =>
        go_wp2_with (at_lookup; refine wpList_lookup_own_unit _ rfl _ _ 112 rfl 40 113 keyedPt Tryz.underlying112 (zeroUnit _) (w.heap.size + 1) k _ rfl (hown.out.alloc _) _ _ rfl HK.out ?_; rw [HH.out])
        refine (HB.out 191 k _).mono ?_
        rintro e w2 ⟨rfl, hg⟩
        unfold faultV
        obtain ⟨k0, k1, f0, f1, HG⟩ := fault_cellsB (((HBW.out.alloc (by have := HLT.out; omega) _).alloc (by have := HLT.out; simp; omega) _).trans (hg.1.mono (by have := HLT.out; simp; omega)))
        clear hg q0 q1
        go_wp2_with fail
        change bodyPost Tryz.prog Tryz.f54 (fun e w' => e = .returned (lookV (unlikeL P)) ∧ Below w.heap.size w w') .ret _ _
        refine look_endB rfl rfl rfl rfl HG rfl ?_
        have : unlikeL P = some (191, (k : Int)) := by
          unfold unlikeL
          rw [hl, firstP_some hlt HQ.out.symm hq.out]
          rfl
        rw [this]; rfl
      | false =>
        go_wp2_with (first
          | (at_lookup; refine wpList_lookup_own_unit _ rfl _ _ 112 rfl 40 113 keyedPt Tryz.underlying112 (zeroUnit _) (w.heap.size + 1) k _ rfl (hown.out.alloc _) _ _ rfl HK.out ?_; rw [HH.out])
          | (at_mapUpdate; refine wpList_mapUpdate_own _ rfl _ _ _ 112 rfl 40 113 keyedPt Tryz.underlying112 (unitElem (H := Unit)) (w.heap.size + 1) k _ rfl ((hown.out.alloc _).alloc _) (by unfold maxLen; omega) _ _ _ rfl rfl HK.out _ [] unitElem_mk ?_; intro w1 hown1 hgrow1; have HO1 := Lib.hid (And.intro hown1 hgrow1); clear hown1 hgrow1))
        go_roundw
        case rel =>
          refine ⟨k + 1, by omega, by go_num, Lib.hid fun j hj => ?_, Lib.hid ?_, Lib.hid ?_⟩
          · by_cases hik : j < k
            · exact hq.out j hik
            · obtain rfl : j = k := by omega
              exact HQ.out.symm
          · rw [HT.out, setP_snoc]
            exact HO1.out.1
          · have hs := HO1.out.2.size
            simp at hs
            have h3 : Below (w.heap.size + 1) wr w1 := (((Below.refl _ _).alloc (by have := HLT.out; omega) _).alloc (by have := HLT.out; simp; omega) _).grown HO1.out.2 (by have := HLT.out; simp; omega) (fun j hj => by cases hj; exact Nat.le_refl _)
            exact ⟨hb.out.1.trans h3, by have := hb.out.2; omega⟩
        case measure => simp [intOf]; omega
    · obtain rfl : k = n := by omega
      have hi5 : ¬ ((k : Int) < (k : Int)) := by omega
      have hbw : Below (w.heap.size + 1) (w.alloc (.cells #[.int .i64 0, .int .i64 0] 32)) wr := ((Below.refl _ _).alloc (by simp) _).trans hb.out.1
      obtain ⟨c0, c1, f0, f1, HG⟩ := fault_cellsB hbw
      clear hbw
      go_wp2_with fail
      refine look_endB rfl rfl rfl rfl HG rfl ?_
      have : unlikeL P = none := by unfold unlikeL; rw [hl, firstP_none hq.out]; rfl
      rw [this]; rfl
end Go.Proofs.YtdikecfplohpeaaGreat
