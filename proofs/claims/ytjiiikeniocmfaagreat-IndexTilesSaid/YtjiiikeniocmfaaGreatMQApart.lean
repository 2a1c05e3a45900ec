/- ring.apart -/
import Derived.RangeFuncNested
import Derived.Test.YtjiiikeniocmfaaGreatMQRing1
import Derived.Test.YtjiiikeniocmfaaGreatMQUnlike
set_option linter.unusedSimpArgs false
set_option linter.unusedVariables false
namespace Go.Proofs.YtjiiikeniocmfaaGreat
open Go.RowKit Go.Shelf Go.Geo
attribute [local go_sem] Oper.semAt_some
def apartL (l : List Pt) : Option (Int × Int) := (firstP l.length (meetsP l)).map fun i => (193, (i : Int))
theorem keepsFrom_below {B : Nat} {W W' : World} (h : Below W.heap.size W W') : KeepsFrom B W W' := ⟨h.size, fun k o _ hk _ => (h.block k (Array.getElem?_eq_some_iff.1 hk).1).trans hk⟩
def anyMeets (P : List Pt) (x : Fin P.length) : Bool := (edgesL P).any fun y => meetsAt P x.1 y.1
theorem anyMeets_eq (P : List Pt) (x : Fin P.length) : anyMeets P x = meetsP P x.1 := by
  rw [Bool.eq_iff_iff]
  unfold anyMeets meetsP edgesL
  simp only [List.any_eq_true, List.mem_range, List.mem_finRange, true_and]
  exact ⟨fun ⟨y, h⟩ => ⟨y.1, y.2, h⟩, fun ⟨y, h1, h2⟩ => ⟨⟨y, h1⟩, h2⟩⟩
theorem apartL_none {P : List Pt} (h : ∀ x ∈ edgesL P, anyMeets P x = false) : apartL P = none := by
  unfold apartL
  rw [firstP_none (fun i hi => by rw [← anyMeets_eq P ⟨i, hi⟩]; exact h _ (by simp [edgesL]))]
  rfl
theorem apartL_some {P : List Pt} {pre : List (Fin P.length)} {x : Fin P.length} (hp : pre ++ [x] <+: edgesL P) (h : ∀ y ∈ pre, anyMeets P y = false) (hx : anyMeets P x = true) : apartL P = some (193, (x.1 : Int)) := by
  obtain ⟨t, ht⟩ := hp
  have hk : ∀ (k : Nat) (hk : k < P.length), (edgesL P)[k]'(by rw [edgesL_length]; exact hk) = ⟨k, hk⟩ := fun k hk => by simp [edgesL]
  have hxl : pre.length < P.length := by
    have := congrArg List.length ht
    rw [edgesL_length] at this
    simp at this
    omega
  have hxe : x.1 = pre.length := by
    have h1 := hk pre.length hxl
    have h2 : (edgesL P)[pre.length]? = some x := by rw [← ht]; simp
    rw [List.getElem?_eq_getElem (by rw [edgesL_length]; exact hxl), h1] at h2
    injection h2 with h2
    rw [← h2]
  unfold apartL
  rw [firstP_some (k := x.1) x.2 (by rw [← anyMeets_eq]; exact hx) (fun i hi => ?_)]
  · rfl
  · have hil : i < P.length := by omega
    rw [← anyMeets_eq P ⟨i, hil⟩]
    refine h _ ?_
    have h2 : (edgesL P)[i]? = pre[i]? := by rw [← ht, List.append_assoc, List.getElem?_append_left (by omega)]
    rw [List.getElem?_eq_getElem (by rw [edgesL_length]; exact hil), hk i hil] at h2
    exact List.mem_of_getElem? h2.symm
/-- no edge so far meets another one. -/
def ApI (P : List Pt) (W0 : World) (pre : List (Fin P.length)) (W : World) : Prop := (∀ x ∈ pre, anyMeets P x = false) ∧ Below W0.heap.size W0 W
/-- the last one so far does, the first one to do so. -/
def ApX (P : List Pt) (w : World) (B : Nat) (c : Code) (pre : List (Fin P.length)) (W : World) : Prop :=
  c = .ret ∧ (∃ pre0 x, pre = pre0 ++ [x] ∧ (∀ y ∈ pre0, anyMeets P y = false) ∧ anyMeets P x = true ∧ W.heap[B + 1]? = some (.cells #[.int .i64 193, .int .i64 x.1] 35 (0, 0)) ∧ W.heap[B + 2]? = some (.cells #[.bool true] 4 (0, 0))) ∧ Below B w W
theorem apI_own {P : List Pt} {W0 : World} : OwnFrom W0.heap.size (ApI P W0) := by
  rintro pre W W' row ⟨h1, h2⟩ hg hr
  exact ⟨h1, h2.grown hg h2.size (fun k hk => (hr k hk).1)⟩
theorem apX_own {P : List Pt} {w : World} {B B' : Nat} (hB : B + 3 ≤ B') (hw : B ≤ w.heap.size) (c : Code) : OwnFrom B' (ApX P w B c) := by
  rintro pre W W' row ⟨h1, ⟨q, x, g1, g2, g3, h3, h4⟩, h5⟩ hg hr
  have hne : ∀ {j : Nat}, j < B' → some j ≠ row := fun hj e => by have := (hr _ e.symm).1; omega
  exact ⟨h1, ⟨q, x, g1, g2, g3, (hg.block _ (Array.getElem?_eq_some_iff.1 h3).1 (hne (by omega))).trans h3, (hg.block _ (Array.getElem?_eq_some_iff.1 h4).1 (hne (by omega))).trans h4⟩, h5.grown hg (Nat.le_trans hw h5.size) (fun k hk => by have := (hr k hk).1; omega)⟩
/-- the inner loop: none of the edges so far meets the outer one's. -/
def ApI2 (P : List Pt) (x : Fin P.length) (W0 W1 : World) (pre : List (Fin P.length)) (W : World) : Prop := (∀ y ∈ pre, meetsAt P x.1 y.1 = false) ∧ Below W1.heap.size W1 W
/-- .. one does: the fault is written. -/
def ApX2 (P : List Pt) (x : Fin P.length) (w W0 W1 : World) (B : Nat) (c : Code) (pre : List (Fin P.length)) (W : World) : Prop :=
  c = .ret ∧ (∃ y ∈ pre, meetsAt P x.1 y.1 = true) ∧ W.heap[B + 1]? = some (.cells #[.int .i64 193, .int .i64 x.1] 35 (0, 0)) ∧ W.heap[B + 2]? = some (.cells #[.bool true] 4 (0, 0)) ∧ Below B W1 W ∧ KeepsFrom W0.heap.size W1 W
theorem apI2_own {P : List Pt} {x : Fin P.length} {W0 W1 : World} : OwnFrom W1.heap.size (ApI2 P x W0 W1) := by
  rintro pre W W' row ⟨h1, h2⟩ hg hr
  exact ⟨h1, h2.grown hg h2.size (fun k hk => (hr k hk).1)⟩
theorem apX2_own {P : List Pt} {x : Fin P.length} {w W0 W1 : World} {B : Nat} (hB : B + 3 ≤ W1.heap.size) (c : Code) : OwnFrom W1.heap.size (ApX2 P x w W0 W1 B c) := by
  rintro pre W W' row ⟨h1, h2, h3, h4, h5, h6⟩ hg hr
  have hne : ∀ {j : Nat}, j < W1.heap.size → some j ≠ row := fun hj e => by have := (hr _ e.symm).1; omega
  exact ⟨h1, h2, (hg.block _ (Array.getElem?_eq_some_iff.1 h3).1 (hne (by omega))).trans h3, (hg.block _ (Array.getElem?_eq_some_iff.1 h4).1 (hne (by omega))).trans h4, h5.grown hg (by have := h5.size; omega) (fun k hk => by have := (hr k hk).1; omega),
    ownFrom_keepsFrom (β := Unit) (Nat.le_refl _) () W W' row h6 hg hr⟩
theorem load_boolC {w : World} {g : Nat} {v : Value} (hg : w.heap[g]? = some (.cells #[v] 4 (0, 0))) : (loadVar 4 ⟨g, 0, none⟩).run Tryz.prog w = .ok v w := by
  have c0 : w.cell? ⟨g, 0, none⟩ = some v := cell_of_row _ _ _ _ _ _ hg
  have ha : (isAgg 4).run Tryz.prog w = .ok false w := by kernel_rfl
  simp [loadVar, Sem.run_bind, ha, c0, Result.andThen_ok]
theorem results_faultB {fn : Func} {p u : Tmp} (h : fn.results = #[.cell p 35, .cell u 4]) {tmps : Array Value} {w : World} {g g2 : Nat} {a b c : Value}
    (hp : tmps.getD p undef = .pointer (some ⟨g, 0, none⟩)) (hg : w.heap[g]? = some (.cells #[a, b] 35 (0, 0))) (hu : tmps.getD u undef = .pointer (some ⟨g2, 0, none⟩)) (hg2 : w.heap[g2]? = some (.cells #[c] 4 (0, 0))) :
    (results fn tmps).run Tryz.prog w = .ok (.tuple #[.agg #[a, b], c]) w := by
  have hp' : tmps[p]?.getD undef = .pointer (some ⟨g, 0, none⟩) := by simpa using hp
  have hu' : tmps[u]?.getD undef = .pointer (some ⟨g2, 0, none⟩) := by simpa using hu
  have h1 := load_two (t := 35) (fun w => by kernel_rfl) (fun w => by kernel_rfl) hg
  have h2 := load_boolC hg2
  simp [results, h, hp', hu', asAddr, Sem.run_bind, h1, h2, Result.andThen_ok]
theorem meetsAt_skip {P : List Pt} {i k : Nat} (h : k < i + 2 ∨ (i = 0 ∧ k + 1 = P.length)) : meetsAt P i k = false := by
  unfold meetsAt
  rcases h with h | ⟨rfl, h⟩
  · rw [decide_eq_true h]; rfl
  · rw [decide_eq_true h]; simp
theorem meetsAt_ask {P : List Pt} {i k : Nat} (h1 : ¬ k < i + 2) (h : ¬ (i = 0 ∧ k + 1 = P.length)) : meetsAt P i k = decide (meetK (P.getD i p0) (atP P (i + 1)) (P.getD k p0) (atP P (k + 1)) ≠ 0) := by
  unfold meetsAt
  rw [decide_eq_false h1]
  have : (decide (i = 0) && decide (k + 1 = P.length)) = false := by
    rw [Bool.eq_false_iff]
    intro hh
    rw [Bool.and_eq_true, decide_eq_true_eq, decide_eq_true_eq] at hh
    exact h hh
  rw [this]; rfl
/-- what is written where two edges meet. -/
theorem apart_hit {P : List Pt} {x : Fin P.length} {w W0 W1 W2 W3 : World} {B : Nat} {pre : List (Fin P.length)} {y : Fin P.length} (hsz : W0.heap.size = B + 4)
    (h1 : W0.heap[B + 1]? = some (.cells #[.int .i64 0, .int .i64 0] 35 (0, 0))) (h2 : W0.heap[B + 2]? = some (.cells #[.bool false] 4 (0, 0))) (hb01 : Below W0.heap.size W0 W1) (hb1 : Below W1.heap.size W1 W2) (hb2 : Below W2.heap.size W2 W3) (hm : meetsAt P x.1 y.1 = true) :
    KeepsFrom W1.heap.size W2 (((W3.setCell ⟨B + 1, 0, none⟩ (.int .i64 193)).setCell ⟨B + 1, 1, none⟩ (.int .i64 x.1)).setCell ⟨B + 2, 0, none⟩ (.bool true)) ∧
    ApX2 P x w W0 W1 B .ret (pre ++ [y]) (((W3.setCell ⟨B + 1, 0, none⟩ (.int .i64 193)).setCell ⟨B + 1, 1, none⟩ (.int .i64 x.1)).setCell ⟨B + 2, 0, none⟩ (.bool true)) := by
  have hs1 := hb01.size
  have hs2 := hb1.size
  have hb12 : Below W1.heap.size W1 W3 := hb1.trans (hb2.mono hs2)
  have k1 := (hb12.block (B + 1) (by omega)).trans ((hb01.block (B + 1) (by omega)).trans h1)
  have k2 := (hb12.block (B + 2) (by omega)).trans ((hb01.block (B + 2) (by omega)).trans h2)
  have q1 := put_two k1 (.int .i64 193) (.int .i64 x.1)
  have q2 : ((W3.setCell ⟨B + 1, 0, none⟩ (.int .i64 193)).setCell ⟨B + 1, 1, none⟩ (.int .i64 x.1)).heap[B + 2]? = _ := (heap_other (by omega)).trans ((heap_other (by omega)).trans k2)
  have kk : ∀ V, KeepsFrom V W3 (((W3.setCell ⟨B + 1, 0, none⟩ (.int .i64 193)).setCell ⟨B + 1, 1, none⟩ (.int .i64 x.1)).setCell ⟨B + 2, 0, none⟩ (.bool true)) := fun V =>
    (((KeepsOthers.setCell _ _ _).trans (KeepsOthers.setCell _ _ _)).trans (KeepsOthers.setCell _ _ _)).from V
  refine ⟨(keepsFrom_below hb2).trans (kk _), rfl, ⟨y, by simp, hm⟩, ?_, ?_, ?_, (keepsFrom_below hb12).trans (kk _)⟩
  · exact (heap_other (by omega)).trans q1
  · exact heap_setCell_same _ _ 0 _ _ _ q2
  · exact (((hb12.mono (by omega)).setCell (p := ⟨B + 1, 0, none⟩) (Nat.le_succ _) _).setCell (p := ⟨B + 1, 1, none⟩) (Nat.le_succ _) _).setCell (p := ⟨B + 2, 0, none⟩) (by simp) _
set_option maxRecDepth 100000 in
set_option maxHeartbeats 4000000 in
theorem apart_any (ao : Option Addr) (n cap : Nat) (P : List Pt) (w : World) (h : IsPts w ao n cap P) (hs : n ≤ 1048576) :
    Calls Tryz.prog 67 #[.slice ao n cap] w fun e w' => e = .returned (lookV (apartL P)) ∧ Below w.heap.size w w' := by
  have HI := Lib.hid h
  have HS := Lib.hid hs
  have hl := h.1
  have HBAD := Lib.hid bad_any
  have HM := Lib.hid Meets_any
  clear h
  refine (callsIn_wide (n := 8)).1 ?_
  refine callsIn_of_wp_marks Tryz.func67 rfl trivial ?_ rfl
  simp only [Tryz.ntmps67, List.size_toArray, List.length_cons, List.length_nil, Nat.reduceAdd, Nat.reduceSub, Array.replicate_succ, Array.replicate_zero, List.push_toArray, List.append_toArray, List.nil_append, List.cons_append]
  gi_wp2_with fail
  refine ⟨trivial, ?_⟩
  refine (callsIn_wide.2 (edges_any ao n cap _)).mono ?_
  rintro e W0 ⟨rfl, hW0⟩
  have a0 : W0.heap[w.heap.size]? = some (.cells #[.slice ao n cap] 40 (0, 0)) := by rw [← hW0]; exact (Below.heap_alloc _ _ _ (by simp only [World.size_alloc]; omega)).trans ((Below.heap_alloc _ _ _ (by simp only [World.size_alloc]; omega)).trans ((Below.heap_alloc _ _ _ (by simp)).trans (alloc_new _ _)))
  have a1 : W0.heap[w.heap.size + 1]? = some (.cells #[.int .i64 0, .int .i64 0] 35 (0, 0)) := by rw [← hW0]; exact (Below.heap_alloc _ _ _ (by simp only [World.size_alloc]; omega)).trans ((Below.heap_alloc _ _ _ (by simp only [World.size_alloc]; omega)).trans (alloc_new2 _ _ _))
  have a2 : W0.heap[w.heap.size + 2]? = some (.cells #[.bool false] 4 (0, 0)) := by
    rw [← hW0]
    have := alloc_new2 (w.alloc (.cells #[.slice ao n cap] 40)) (.cells #[.int .i64 0, .int .i64 0] 35) (.cells #[.bool false] 4)
    exact (Below.heap_alloc _ _ _ (by simp)).trans (by simpa using this)
  have hsz : W0.heap.size = w.heap.size + 4 := by rw [← hW0]; simp
  have hg0 : Grew w W0 := by rw [← hW0]; exact ((((Grew.refl _).alloc _).alloc _).alloc _).alloc _
  have a3 : W0.cell? ⟨w.heap.size + 1 + 1 + 1, 0, none⟩ = some (.slice ao n cap) := by
    rw [← hW0]
    have := alloc_cell (((w.alloc (.cells #[.slice ao n cap] 40)).alloc (.cells #[.int .i64 0, .int .i64 0] 35)).alloc (.cells #[.bool false] 4)) (.slice ao n cap) 40
    simpa using this
  have H0 := Lib.hid (And.intro a0 (And.intro a1 (And.intro a2 (And.intro a3 (And.intro hsz hg0)))))
  simp only [World.size_alloc]
  clear hW0 a0 a1 a2 a3 hsz hg0
  gi_wp2_with fail
  refine wpIn_rangeFunc_ownH (w := W0) rfl (by omega) (gf := 129) (lb := #[.pointer (some ⟨w.heap.size + 1 + 1 + 1, 0, none⟩)]) rfl trivial (enters_of Tryz.func129 (by kernel_rfl) rfl)
    (edges_stops (8 - 1) (w.heap.size + 1 + 1 + 1) W0.heap.size ao n cap P W0 (by omega) (by rw [H0.out.2.2.2.2.1]; omega) (Nat.le_refl _) H0.out.2.2.2.1 (fun A hA => (HI.out.grew H0.out.2.2.2.2.2).later hA (Nat.le_refl _)) HS.out)
    belowK_t (belowK_b (Nat.le_refl _)) (Below.refl _ _) (fun _ => rfl)
    (ApI P W0) (ApX P w w.heap.size) apI_own (apX_own (by rw [H0.out.2.2.2.2.1]; omega) (Nat.le_refl _)) ⟨(fun x hx => by cases hx), Below.refl _ _⟩
    (fun x a' W => ∃ (Bx i : Nat) (a b : Pt), Hid (i = x.1 ∧ a = P.getD x.1 p0 ∧ b = atP P (x.1 + 1)) ∧ W0.heap.size ≤ Bx ∧ W.heap[Bx]? = some (.cells #[.int .i64 i] 3 (0, 0)) ∧ W.heap[Bx + 1]? = some (.cells #[.int .i64 a.x, .int .i64 a.y, .int .i64 b.x, .int .i64 b.y] 156 (0, 0)) ∧ a' = { tmps := #[.slice ao n cap, .pointer (some ⟨w.heap.size, 0, none⟩), .pointer (some ⟨w.heap.size + 1, 0, none⟩), .pointer (some ⟨w.heap.size + 1 + 1, 0, none⟩), .pointer (some ⟨Bx, 0, none⟩), .pointer (some ⟨Bx + 1, 0, none⟩), undef, undef, .slice ao n cap, .func (.func 129) #[] #[.pointer (some ⟨w.heap.size + 1 + 1 + 1, 0, none⟩)], .int .i64 i, .agg #[.int .i64 a.x, .int .i64 a.y, .int .i64 b.x, .int .i64 b.y], undef, undef, undef, undef, undef, undef, undef, undef, undef, undef, undef, undef, undef, undef, undef, undef, undef, undef, undef, undef, undef, undef, undef, undef, undef, undef, undef, undef, undef, undef, undef, undef, undef, undef], defers := [] })
    (fun x a' _ X Y row hs hg hr => ?ax) ?assign ?body ?done ?stop
  case ax =>
    obtain ⟨Bx, i, a, b, hi, h0, h1, h2, h3⟩ := hs
    have hne : ∀ {j : Nat} {c : Array Value} {t : TypeId} {fr : Nat × Nat}, X.heap[j]? = some (.cells c t fr) → some j ≠ row := fun hj e => by
      obtain ⟨_, o, ho, hc⟩ := hr _ e.symm
      rw [hj] at ho; cases ho; cases hc
    exact ⟨Bx, i, a, b, hi, h0, (hg.block _ (Array.getElem?_eq_some_iff.1 h1).1 (hne h1)).trans h1, (hg.block _ (Array.getElem?_eq_some_iff.1 h2).1 (hne h2)).trans h2, h3⟩
  case assign =>
    intro l pre x W K hi hK
    dsimp only [encE]
    have HH := Lib.hid hi
    have HK := Lib.hid hK
    clear hi hK
    gi_wp2_with fail
    have hb2 : Below W.heap.size W ((W.alloc (.cells #[.int .i64 x.1] 3)).alloc (.cells #[.int .i64 (P.getD x.1 p0).x, .int .i64 (P.getD x.1 p0).y, .int .i64 (atP P (x.1 + 1)).x, .int .i64 (atP P (x.1 + 1)).y] 156)) := ((Below.refl _ _).alloc (Nat.le_refl _) _).alloc (by simp) _
    exact HK.out _ _ (keepsFrom_below hb2) (hb2.mono HH.out.2.size) ⟨HH.out.1, HH.out.2.trans (hb2.mono HH.out.2.size)⟩
      ⟨W.heap.size, _, _, _, Lib.hid ⟨rfl, rfl, rfl⟩, HH.out.2.size, (Below.heap_alloc _ _ _ (by simp)).trans (alloc_new _ _), alloc_new2 _ _ _, rfl⟩
  case body =>
    rintro l pre x a' W hl ⟨r, hr⟩ ⟨hp, hB⟩ ⟨Bx, i, a, b, hiab, hBx, b1, b2, rfl⟩ hlt
    have hsz := H0.out.2.2.2.2.1
    have hsW := hB.size
    have c1 : W.cell? ⟨w.heap.size, 0, none⟩ = some (.slice ao n cap) := cell_of_row _ _ _ _ _ _ ((hB.block _ (by omega)).trans H0.out.1)
    have HH := Lib.hid (And.intro hl (And.intro hr (And.intro hp (And.intro hB (And.intro hBx (And.intro b1 (And.intro b2 (And.intro hsz hsW))))))))
    clear hl hr hp hB hBx b1 b2 hlt hsz hsW
    gi_wp2_with fail
    refine ⟨trivial, ?_⟩
    refine (CallsIn.inRound l (callsIn_wide.2 (edges_any ao n cap _))).mono ?_
    rintro e W1 ⟨rfl, hW1⟩
    have hb1 : Below W.heap.size W W1 := by rw [← hW1]; exact (Below.refl _ _).alloc (Nat.le_refl _) _
    have hs1 : W1.heap.size = W.heap.size + 1 := by rw [← hW1]; simp
    have hc1 : W1.cell? ⟨W.heap.size, 0, none⟩ = some (.slice ao n cap) := by rw [← hW1]; exact alloc_cell _ _ _
    have H1 := Lib.hid (And.intro hb1 (And.intro hs1 hc1))
    clear hW1 hb1 hs1 hc1 c1
    gi_wp2_with fail
    have hr1 : W1.heap[l]? = some (.loop r) := (H1.out.1.block l (Array.getElem?_eq_some_iff.1 HH.out.2.1).1).trans HH.out.2.1
    have hb01 : Below W0.heap.size W0 W1 := HH.out.2.2.2.1.trans (H1.out.1.mono HH.out.2.2.2.1.size)
    have HB01 := Lib.hid hb01
    have hs0 : w.heap.size + 4 ≤ W.heap.size := by have h1 := HH.out.2.2.2.2.2.2.2.1; have h2 := HH.out.2.2.2.2.2.2.2.2; omega
    have HS0 := Lib.hid hs0
    refine wpIn_rangeFunc_ownN (w := W1) (l₀ := l) (r₀ := r) rfl hr1 (by omega) (gf := 129) (lb := #[.pointer (some ⟨W.heap.size, 0, none⟩)]) rfl trivial (enters_of Tryz.func129 (by kernel_rfl) rfl)
      ((edges_stops (8 - 1 - 1 - 1) W.heap.size W1.heap.size ao n cap P W1 (by omega) (by rw [H1.out.2.1]; omega) (Nat.le_refl _) H1.out.2.2 (fun A hA => ((HI.out.grew H0.out.2.2.2.2.2).later HB01.out (Nat.le_refl _)).later hA (Nat.le_refl _)) HS.out).inRound l)
      belowK_t (belowK_b (Nat.le_refl _)) (Below.refl _ _) (fun _ => rfl)
      (ApI2 P x W0 W1) (ApX2 P x w W0 W1 w.heap.size) apI2_own (apX2_own (by rw [H1.out.2.1]; have := HS0.out; omega)) ⟨(fun y hy => by cases hy), Below.refl _ _⟩
      (fun y a' W' => ∃ (By j : Nat) (c d : Pt), Hid (j = y.1 ∧ c = P.getD y.1 p0 ∧ d = atP P (y.1 + 1)) ∧ W1.heap.size ≤ By ∧ W'.heap[By]? = some (.cells #[.int .i64 c.x, .int .i64 c.y, .int .i64 d.x, .int .i64 d.y] 156 (0, 0)) ∧ a' = { tmps := #[.slice ao n cap, .pointer (some ⟨w.heap.size, 0, none⟩), .pointer (some ⟨w.heap.size + 1, 0, none⟩), .pointer (some ⟨w.heap.size + 1 + 1, 0, none⟩), .pointer (some ⟨Bx, 0, none⟩), .pointer (some ⟨Bx + 1, 0, none⟩), .int .i64 j, .pointer (some ⟨By, 0, none⟩), .slice ao n cap, .func (.func 129) #[] #[.pointer (some ⟨w.heap.size + 1 + 1 + 1, 0, none⟩)], .int .i64 i, .agg #[.int .i64 a.x, .int .i64 a.y, .int .i64 b.x, .int .i64 b.y], .slice ao n cap, .func (.func 129) #[] #[.pointer (some ⟨W.heap.size, 0, none⟩)], .int .i64 j, .agg #[.int .i64 c.x, .int .i64 c.y, .int .i64 d.x, .int .i64 d.y], undef, undef, undef, undef, undef, undef, undef, undef, undef, undef, undef, undef, undef, undef, undef, undef, undef, undef, undef, undef, undef, undef, undef, undef, undef, undef, undef, undef, undef, undef], defers := [] })
      (fun y a' _ X Y row hs hg hr => ?ax2) ?assign2 ?body2 ?done2 ?stop2
    case ax2 =>
      obtain ⟨By, j, c, d, hj, h0, h1, h3⟩ := hs
      exact ⟨By, j, c, d, hj, h0, (hg.block _ (Array.getElem?_eq_some_iff.1 h1).1 (fun e => by
        obtain ⟨_, o, ho, hc⟩ := hr _ e.symm
        rw [h1] at ho; cases ho; cases hc)).trans h1, h3⟩
    case assign2 =>
      intro l2 pre' y W' K hi hK
      dsimp only [encE]
      have HH2 := Lib.hid hi
      have HK := Lib.hid hK
      clear hi hK
      gi_wp2_with fail
      have hb2 : Below W'.heap.size W' (W'.alloc (.cells #[.int .i64 (P.getD y.1 p0).x, .int .i64 (P.getD y.1 p0).y, .int .i64 (atP P (y.1 + 1)).x, .int .i64 (atP P (y.1 + 1)).y] 156)) := (Below.refl _ _).alloc (Nat.le_refl _) _
      exact HK.out _ _ (keepsFrom_below hb2) (hb2.mono HH2.out.2.size) ⟨HH2.out.1, HH2.out.2.trans (hb2.mono HH2.out.2.size)⟩ ⟨W'.heap.size, _, _, _, Lib.hid ⟨rfl, rfl, rfl⟩, HH2.out.2.size, alloc_new _ _, rfl⟩
    case body2 =>
      rintro l2 pre' y a'' W' hl2 ⟨r2, hr2⟩ ⟨hq, hB2⟩ ⟨By, j, c, d, hjcd, hBy, d1, rfl⟩ hlt2
      have hBx : W'.heap[Bx]? = some (.cells #[.int .i64 i] 3 (0, 0)) := by
        have h1 := HH.out.2.2.2.2.2.1
        have h2 := (Array.getElem?_eq_some_iff.1 h1).1
        exact (hB2.block _ (by rw [H1.out.2.1]; omega)).trans ((H1.out.1.block _ h2).trans h1)
      have hBx2 : W'.heap[Bx + 1]? = some (.cells #[.int .i64 a.x, .int .i64 a.y, .int .i64 b.x, .int .i64 b.y] 156 (0, 0)) := by
        have h1 := HH.out.2.2.2.2.2.2.1
        have h2 := (Array.getElem?_eq_some_iff.1 h1).1
        exact (hB2.block _ (by rw [H1.out.2.1]; omega)).trans ((H1.out.1.block _ h2).trans h1)
      have hB0 : W'.heap[w.heap.size]? = some (.cells #[.slice ao n cap] 40 (0, 0)) := by
        have := HS0.out
        exact (hB2.block _ (by rw [H1.out.2.1]; omega)).trans ((HB01.out.block _ (by rw [H0.out.2.2.2.2.1]; omega)).trans H0.out.1)
      have cx : W'.cell? ⟨Bx, 0, none⟩ = some (.int .i64 i) := cell_of_row _ _ _ _ _ _ hBx
      have cl : W'.cell? ⟨w.heap.size, 0, none⟩ = some (.slice ao n cap) := cell_of_row _ _ _ _ _ _ hB0
      have HX := Lib.hid (And.intro hBx (And.intro hBx2 (And.intro d1 (And.intro hB2 hq))))
      have hie := hiab.out.1
      have hje := hjcd.out.1
      have hxn : i < n := by have := x.2; omega
      have hyn : j < n := by have := y.2; omega
      have hx0 : (0 : Int) ≤ (i : Int) := by omega
      have hy0 : (0 : Int) ≤ (j : Int) := by omega
      have hs9 := HS.out
      have hn9 : (n : Int) ≤ 1048576 := by omega
      have hx9 : (i : Int) ≤ 1048576 := by omega
      have hn1 : (0 : Int) ≤ (n : Int) - 1 := by omega
      have HAB := Lib.hid (And.intro hiab.out hjcd.out)
      clear hBx hBx2 hB0 d1 hB2 hq hr2 hl2 hlt2 hr1 hb01 hs0 hiab hjcd hs9
      have hundef : ∀ b, some undef = some (Value.bool b) → False := fun b h => by injection h with h; cases h
      by_cases h1 : j < i + 2
      · have HSK : Hid (meetsAt P x.1 y.1 = false) := Lib.hid (meetsAt_skip (.inl (by omega)))
        have t1 : decide ((j : Int) < (i : Int) + 2) = true := decide_eq_true (by omega)
        clear hie hje
        gi_wp2_with fail
        all_goals first
          | (exfalso; exact hundef _ (by assumption))
          | exact ⟨KeepsFrom.refl _ _, Below.refl _ _, (fun z hz => by
            rcases List.mem_append.1 hz with hz | hz
            · exact HX.out.2.2.2.2 z hz
            · rw [List.mem_singleton] at hz; subst hz
              exact HSK.out), HX.out.2.2.2.1⟩
      · by_cases h2 : i = 0 ∧ j + 1 = n
        · have HSK : Hid (meetsAt P x.1 y.1 = false) := Lib.hid (meetsAt_skip (.inr ⟨by omega, by omega⟩))
          have t1 : decide ((j : Int) < 2) = false := decide_eq_false (by omega)
          have t3 : ((j : Int) == (n : Int) - 1) = true := by simp; omega
          clear hie hje
          obtain ⟨rfl, hjn⟩ := h2
          clear hjn h1
          gi_wp2_with fail
          exact ⟨KeepsFrom.refl _ _, Below.refl _ _, (fun z hz => by
            rcases List.mem_append.1 hz with hz | hz
            · exact HX.out.2.2.2.2 z hz
            · rw [List.mem_singleton] at hz; subst hz
              exact HSK.out), HX.out.2.2.2.1⟩
        · have e0 := HX.out.2.1
          have e1 := HX.out.2.2.1
          have x0 : W'.cell? ⟨Bx + 1, 0, none⟩ = _ := cell_of_row _ _ _ _ _ _ e0
          have x1 : W'.cell? ⟨Bx + 1, 1, none⟩ = _ := cell_of_row _ _ _ _ _ _ e0
          have x2 : W'.cell? ⟨Bx + 1, 2, none⟩ = _ := cell_of_row _ _ _ _ _ _ e0
          have x3 : W'.cell? ⟨Bx + 1, 3, none⟩ = _ := cell_of_row _ _ _ _ _ _ e0
          have y0 : W'.cell? ⟨By, 0, none⟩ = _ := cell_of_row _ _ _ _ _ _ e1
          have y1 : W'.cell? ⟨By, 1, none⟩ = _ := cell_of_row _ _ _ _ _ _ e1
          have y2 : W'.cell? ⟨By, 2, none⟩ = _ := cell_of_row _ _ _ _ _ _ e1
          have y3 : W'.cell? ⟨By, 3, none⟩ = _ := cell_of_row _ _ _ _ _ _ e1
          have hvm := meetsAt_ask (P := P) (i := x.1) (k := y.1) (by omega) (by omega)
          rw [← HAB.out.1.2.1, ← HAB.out.1.2.2, ← HAB.out.2.2.1, ← HAB.out.2.2.2] at hvm
          have HMC := Lib.hid (HM.out a b c d)
          obtain ⟨m, hm⟩ : ∃ m, m = meetK a b c d := ⟨_, rfl⟩
          rw [← hm] at HMC hvm
          have HVM := Lib.hid hvm
          unfold ptV at HMC
          clear e0 e1 hm hvm
          by_cases h3 : i = 0
          · have t1 : decide ((j : Int) < 2) = false := decide_eq_false (by omega)
            have t3 : ((j : Int) == (n : Int) - 1) = false := by simp; omega
            clear hie hje h1 h2
            subst h3
            gi_wp2_with fail
            refine ⟨trivial, ?_⟩
            refine (CallsIn.inRound l2 (CallsIn.inRound l (callsIn_wide.2 (HMC.out _)))).mono ?_
            rintro e W2 ⟨rfl, hb2⟩
            have hc2 := (hb2.block Bx (Array.getElem?_eq_some_iff.1 HX.out.1).1).trans HX.out.1
            have cx2 : W2.cell? ⟨Bx, 0, none⟩ = _ := cell_of_row _ _ _ _ _ _ hc2
            have HB2 := Lib.hid hb2
            clear hb2 hc2 x0 x1 x2 x3 y0 y1 y2 y3 cx cl
            by_cases hm0 : m = 0
            · subst hm0
              gi_wp2_with fail
              exact ⟨keepsFrom_below HB2.out, HB2.out.mono HX.out.2.2.2.1.size, (fun z hz => by
                rcases List.mem_append.1 hz with hz | hz
                · exact HX.out.2.2.2.2 z hz
                · rw [List.mem_singleton] at hz; subst hz
                  rw [HVM.out]; rfl), HX.out.2.2.2.1.trans (HB2.out.mono HX.out.2.2.2.1.size)⟩
            · have tz : ((m : Int) == 0) = false := by simp; omega
              have tz2 : ((m : Int) != 0) = true := by simp; omega
              have HM0 := Lib.hid hm0
              clear hm0
              gi_wp2_with fail
              refine ⟨trivial, ?_⟩
              refine (CallsIn.inRound l2 (CallsIn.inRound l (callsIn_wide.2 (HBAD.out 193 ((0 : Nat) : Int) _)))).mono ?_
              rintro e W3 ⟨rfl, hg3⟩
              unfold faultV
              have hz0 := H0.out.2.2.2.2.1
              have hz1 := HB01.out.size
              have hb13 : Below W1.heap.size W1 W3 := (HX.out.2.2.2.1.trans (HB2.out.mono HX.out.2.2.2.1.size)).trans (hg3.1.mono (Nat.le_trans HX.out.2.2.2.1.size HB2.out.size))
              have k1 := (hb13.block (w.heap.size + 1) (by omega)).trans ((HB01.out.block (w.heap.size + 1) (by omega)).trans H0.out.2.1)
              have k2 := (hb13.block (w.heap.size + 2) (by omega)).trans ((HB01.out.block (w.heap.size + 2) (by omega)).trans H0.out.2.2.1)
              have f0 : W3.frozen? ⟨w.heap.size + 1, 0, none⟩ = false := frozen_of_row _ _ _ _ _ k1
              have f1 : W3.frozen? ⟨w.heap.size + 1, 1, none⟩ = false := frozen_of_row _ _ _ _ _ k1
              have f2 : W3.frozen? ⟨w.heap.size + 1 + 1, 0, none⟩ = false := frozen_of_row _ _ _ _ _ k2
              have k3 : W3.cell? ⟨w.heap.size + 1, 0, none⟩ = _ := cell_of_row _ _ _ _ _ _ k1
              have k4 : W3.cell? ⟨w.heap.size + 1, 1, none⟩ = _ := cell_of_row _ _ _ _ _ _ k1
              have k5 : W3.cell? ⟨w.heap.size + 1 + 1, 0, none⟩ = _ := cell_of_row _ _ _ _ _ _ k2
              have H3 := Lib.hid (HB2.out.trans (hg3.1.mono HB2.out.size))
              clear hz0 hz1 hb13 k1 k2 hg3
              gi_wp2_with fail
              have hit := apart_hit (P := P) (x := x) (w := w) (pre := pre') (y := y) H0.out.2.2.2.2.1 H0.out.2.1 H0.out.2.2.1 HB01.out HX.out.2.2.2.1 H3.out (by rw [HVM.out]; exact decide_eq_true HM0.out)
              rw [← HAB.out.1.1] at hit
              exact hit
          · have t1 : decide ((j : Int) < (i : Int) + 2) = false := decide_eq_false (by omega)
            have t2 : ((i : Int) == 0) = false := by simp; omega
            clear hie hje h1 h2 h3
            gi_wp2_with fail
            refine ⟨trivial, ?_⟩
            refine (CallsIn.inRound l2 (CallsIn.inRound l (callsIn_wide.2 (HMC.out _)))).mono ?_
            rintro e W2 ⟨rfl, hb2⟩
            have hc2 := (hb2.block Bx (Array.getElem?_eq_some_iff.1 HX.out.1).1).trans HX.out.1
            have cx2 : W2.cell? ⟨Bx, 0, none⟩ = _ := cell_of_row _ _ _ _ _ _ hc2
            have HB2 := Lib.hid hb2
            clear hb2 hc2 x0 x1 x2 x3 y0 y1 y2 y3 cx cl
            by_cases hm0 : m = 0
            · subst hm0
              gi_wp2_with fail
              exact ⟨keepsFrom_below HB2.out, HB2.out.mono HX.out.2.2.2.1.size, (fun z hz => by
                rcases List.mem_append.1 hz with hz | hz
                · exact HX.out.2.2.2.2 z hz
                · rw [List.mem_singleton] at hz; subst hz
                  rw [HVM.out]; rfl), HX.out.2.2.2.1.trans (HB2.out.mono HX.out.2.2.2.1.size)⟩
            · have tz : ((m : Int) == 0) = false := by simp; omega
              have tz2 : ((m : Int) != 0) = true := by simp; omega
              have HM0 := Lib.hid hm0
              clear hm0
              gi_wp2_with fail
              refine ⟨trivial, ?_⟩
              refine (CallsIn.inRound l2 (CallsIn.inRound l (callsIn_wide.2 (HBAD.out 193 i _)))).mono ?_
              rintro e W3 ⟨rfl, hg3⟩
              unfold faultV
              have hz0 := H0.out.2.2.2.2.1
              have hz1 := HB01.out.size
              have hb13 : Below W1.heap.size W1 W3 := (HX.out.2.2.2.1.trans (HB2.out.mono HX.out.2.2.2.1.size)).trans (hg3.1.mono (Nat.le_trans HX.out.2.2.2.1.size HB2.out.size))
              have k1 := (hb13.block (w.heap.size + 1) (by omega)).trans ((HB01.out.block (w.heap.size + 1) (by omega)).trans H0.out.2.1)
              have k2 := (hb13.block (w.heap.size + 2) (by omega)).trans ((HB01.out.block (w.heap.size + 2) (by omega)).trans H0.out.2.2.1)
              have f0 : W3.frozen? ⟨w.heap.size + 1, 0, none⟩ = false := frozen_of_row _ _ _ _ _ k1
              have f1 : W3.frozen? ⟨w.heap.size + 1, 1, none⟩ = false := frozen_of_row _ _ _ _ _ k1
              have f2 : W3.frozen? ⟨w.heap.size + 1 + 1, 0, none⟩ = false := frozen_of_row _ _ _ _ _ k2
              have k3 : W3.cell? ⟨w.heap.size + 1, 0, none⟩ = _ := cell_of_row _ _ _ _ _ _ k1
              have k4 : W3.cell? ⟨w.heap.size + 1, 1, none⟩ = _ := cell_of_row _ _ _ _ _ _ k1
              have k5 : W3.cell? ⟨w.heap.size + 1 + 1, 0, none⟩ = _ := cell_of_row _ _ _ _ _ _ k2
              have H3 := Lib.hid (HB2.out.trans (hg3.1.mono HB2.out.size))
              clear hz0 hz1 hb13 k1 k2 hg3
              gi_wp2_with fail
              have hit := apart_hit (P := P) (x := x) (w := w) (pre := pre') (y := y) H0.out.2.2.2.2.1 H0.out.2.1 H0.out.2.2.1 HB01.out HX.out.2.2.2.1 H3.out (by rw [HVM.out]; exact decide_eq_true HM0.out)
              rw [← HAB.out.1.1] at hit
              exact hit
    case done2 =>
      rintro ys' W' rfl ⟨hq, hB2⟩
      gi_wp2
      have hsz := HH.out.2.2.2.1.size
      refine ⟨(keepsFrom_below H1.out.1).trans (keepsFrom_below hB2), (H1.out.1.mono hsz).trans (hB2.mono HB01.out.size), fun z hz => ?_, HB01.out.trans (hB2.mono HB01.out.size)⟩
      rcases List.mem_append.1 hz with hz | hz
      · exact HH.out.2.2.1 z hz
      · rw [List.mem_singleton] at hz; subst hz
        unfold anyMeets
        rw [List.any_eq_false]
        intro y hy
        rw [hq y hy]
        decide
    case stop2 =>
      rintro c pre' W' hpre ⟨rfl, ⟨y, hy, hm⟩, g1, g2, g3, g4⟩
      gi_wp2
      refine ⟨(keepsFrom_below H1.out.1).trans g4, rfl, ⟨pre, x, rfl, HH.out.2.2.1, ?_, g1, g2⟩, ?_⟩
      · unfold anyMeets
        rw [List.any_eq_true]
        exact ⟨y, hpre.subset hy, hm⟩
      · exact (H0.out.2.2.2.2.2.1.trans (HB01.out.mono (by rw [H0.out.2.2.2.2.1]; omega))).trans g3
  case done =>
    rintro D ys W hD rfl ⟨hp, hB⟩ hK
    have hz0 := H0.out.2.2.2.2.1
    have k1 := (hB.block (w.heap.size + 1) (by omega)).trans H0.out.2.1
    have k2 := (hB.block (w.heap.size + 2) (by omega)).trans H0.out.2.2.1
    have f0 : W.frozen? ⟨w.heap.size + 1, 0, none⟩ = false := frozen_of_row _ _ _ _ _ k1
    have f1 : W.frozen? ⟨w.heap.size + 1, 1, none⟩ = false := frozen_of_row _ _ _ _ _ k1
    have f2 : W.frozen? ⟨w.heap.size + 1 + 1, 0, none⟩ = false := frozen_of_row _ _ _ _ _ k2
    have k3 : W.cell? ⟨w.heap.size + 1, 0, none⟩ = _ := cell_of_row _ _ _ _ _ _ k1
    have k4 : W.cell? ⟨w.heap.size + 1, 1, none⟩ = _ := cell_of_row _ _ _ _ _ _ k1
    have k5 : W.cell? ⟨w.heap.size + 1 + 1, 0, none⟩ = _ := cell_of_row _ _ _ _ _ _ k2
    have HH := Lib.hid (And.intro hp (And.intro hB (And.intro k1 (And.intro k2 hz0))))
    clear hp hB k1 k2 hz0
    gi_wp2
    have q1 := put_two HH.out.2.2.1 (.int .i64 0) (.int .i64 0)
    have q2 : ((W.setCell ⟨w.heap.size + 1, 0, none⟩ (.int .i64 0)).setCell ⟨w.heap.size + 1, 1, none⟩ (.int .i64 0)).heap[w.heap.size + 2]? = _ := (heap_other (by omega)).trans ((heap_other (by omega)).trans HH.out.2.2.2.1)
    have hs0 := HH.out.2.2.2.2
    have hK' : ((((W.setCell ⟨w.heap.size + 1, 0, none⟩ (.int .i64 0)).setCell ⟨w.heap.size + 1, 1, none⟩ (.int .i64 0))).setCell ⟨w.heap.size + 1 + 1, 0, none⟩ (.bool false)).heap[D]? = _ := (heap_other (by omega)).trans ((heap_other (by omega)).trans ((heap_other (by omega)).trans hK))
    refine ⟨by simp, .inl ⟨_, _, rfl, run_takeDeferred hK', ?_⟩⟩
    refine ⟨_, results_faultB rfl rfl ((World.putObj_heap_other (by omega)).trans ((heap_other (by omega)).trans q1)) rfl ((World.putObj_heap_other (by omega)).trans (heap_setCell_same _ _ 0 _ _ (.bool false) q2)), ?_, ?_⟩
    · rw [apartL_none HH.out.1]; rfl
    · have hb : Below w.heap.size w W := H0.out.2.2.2.2.2.1.trans (HH.out.2.1.mono (by omega))
      exact (((hb.setCell (p := ⟨w.heap.size + 1, 0, none⟩) (by simp) _).setCell (p := ⟨w.heap.size + 1, 1, none⟩) (by simp) _).setCell (p := ⟨w.heap.size + 1 + 1, 0, none⟩) (by simp; omega) _).trans
        ((Below.refl _ _).grown (grownBy_putObj' _ D _) (by have := hb.size; simp; omega) (fun k e => by cases e; omega))
  case stop =>
    rintro D c pre W hD hpre ⟨rfl, ⟨q, x, rfl, g1, g2, g3, g4⟩, g5⟩ hK
    gi_wp2
    have hs0 := H0.out.2.2.2.2.1
    refine ⟨by simp, .inl ⟨_, _, rfl, run_takeDeferred hK, ?_⟩⟩
    refine ⟨_, results_faultB rfl rfl ((World.putObj_heap_other (by omega)).trans g3) rfl ((World.putObj_heap_other (by omega)).trans g4), ?_, ?_⟩
    · rw [apartL_some hpre g1 g2]; rfl
    · exact g5.trans ((Below.refl _ _).grown (grownBy_putObj' _ D _) (by have := g5.size; omega) (fun k e => by cases e; omega))
end Go.Proofs.YtjiiikeniocmfaaGreat
