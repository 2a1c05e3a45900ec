/- juris: Above -/
import Derived.RangeFuncFrom
import Derived.Maps.AppendAt
import Derived.Test.YtbidappkmnedaaaJAbove
namespace Go.Proofs.Ytbidappkmnedaaa
open Go.RowKit Go.Shelf
attribute [local go_sem] Oper.semAt_some
theorem firstBad_ok {g : Nat → Int} : ∀ (f i : Nat), (firstBad g f i).1 = 0 → ∀ j, i ≤ j → j < i + f → g j = 0
  | 0, i, _, j, h1, h2 => by omega
  | f + 1, i, h, j, h1, h2 => by
    unfold firstBad at h
    split at h
    · rename_i h0
      by_cases e : j = i
      · rw [e]; exact h0
      · exact firstBad_ok f (i + 1) h j (by omega) (by omega)
    · rename_i h0
      exact absurd h h0
/-- of jurisdictions that may be. -/
theorem check_ok {L : List Jur} (h : (checkP L).1 = 0) : L.length ≤ 64 ∧ (∀ i, i < L.length → rankP L i = 0) ∧ ∀ i, i < L.length → par L i = 0 := by
  unfold checkP at h
  split at h
  · exact absurd h (by decide)
  · rename_i h1
    split at h
    · rename_i h2
      exact ⟨by omega, fun i hi => firstBad_ok _ 0 h2 i (by omega) (by omega), fun i hi => firstBad_ok _ 0 h i (by omega) (by omega)⟩
    · rename_i h2
      exact absurd h h2
theorem kind_ok {L : List Jur} (h : (checkP L).1 = 0) {i : Nat} (hi : i < L.length) : 1 ≤ (L.getD i j0).ki ∧ (L.getD i j0).ki ≤ 4 := by
  have := (check_ok h).2.1 i hi
  unfold rankP at this
  split at this
  · cases this
  · split at this
    · cases this
    · split at this
      · rename_i hk
        have := hk.1
        unfold kindP at this
        simpa using this
      · cases this
theorem parent_ok {L : List Jur} (h : (checkP L).1 = 0) {i : Nat} (hi : i < L.length) (hp : (L.getD i j0).pa ≠ 0) : ∃ k, atJ L (L.getD i j0).pa = some k ∧ k < L.length ∧ (L.getD k j0).ki < (L.getD i j0).ki := by
  have := (check_ok h).2.2 i hi
  unfold par parentP at this
  split at this
  · cases this
  · cases ha : atJ L (L.getD i j0).pa with
    | none => rw [ha] at this; cases this
    | some k =>
      rw [ha] at this
      dsimp only at this
      split at this
      · cases this
      · exact ⟨k, rfl, (atJ_lt ha).1, by omega⟩
/-- what is above a number: at most three, each of a lesser kind. -/
theorem chain_of {L : List Jur} (h : (checkP L).1 = 0) : ∀ (f : Nat) (i : Nat) (x : Int), atJ L x = some i → (L.getD i j0).ki ≤ f → ∃ ys, Chain L x ys ∧ ys.length + 1 ≤ f
  | 0, i, x, ha, hf => by have := kind_ok h (atJ_lt ha).1; omega
  | f + 1, i, x, ha, hf => by
    by_cases hp : (L.getD i j0).pa = 0
    · exact ⟨[], .top ha hp, by simp⟩
    · obtain ⟨k, hk, _, hlt⟩ := parent_ok h (atJ_lt ha).1 hp
      obtain ⟨ys, hc, hl⟩ := chain_of h f k _ hk (by omega)
      exact ⟨_, .on ha hp hc, by simp; omega⟩
theorem chain_ex {L : List Jur} (h : (checkP L).1 = 0) (x : Int) : ∃ ys, Chain L x ys ∧ ys.length ≤ 3 := by
  cases ha : atJ L x with
  | none => exact ⟨[], .none ha, by simp⟩
  | some i =>
    obtain ⟨ys, hc, hl⟩ := chain_of h 4 i x ha (kind_ok h (atJ_lt ha).1).2
    exact ⟨ys, hc, by omega⟩
theorem Chain.unique {L : List Jur} {x : Int} {ys zs : List Int} (h : Chain L x ys) : Chain L x zs → ys = zs := by
  induction h generalizing zs with
  | none ha =>
    intro k
    cases k with
    | none _ => rfl
    | top hb _ => rfl
    | on hb _ _ => rw [ha] at hb; cases hb
  | top ha hp =>
    intro k
    cases k with
    | none _ => rfl
    | top hb _ => rfl
    | on hb hq _ => rw [ha] at hb; cases hb; exact absurd hp hq
  | on ha hp _ ih =>
    intro k
    cases k with
    | none hb => rw [ha] at hb; cases hb
    | top hb hq => rw [ha] at hb; cases hb; exact absurd hq hp
    | on hb hq hc => rw [ha] at hb; cases hb; rw [ih hc]
/-- what Above tells. -/
def AboveIs (L : List Jur) (x : Int) (M : List Int) : Prop := ((checkP L).1 ≠ 0 → M = []) ∧ ((checkP L).1 = 0 → Chain L x M)
/-- what its loop keeps. -/
def AbI (w : World) (base B0 : Nat) (pre : List Int) (W : World) : Prop := (∃ v, W.heap[B0]? = some (.cells #[v] 38 (0, 0)) ∧ OwnI W B0 v pre) ∧ Below base w W ∧ B0 + 3 ≤ W.heap.size
theorem abI_own {w : World} {base B0 B : Nat} (hb : base ≤ B0) (hB : B = B0 + 3) : OwnFrom B (AbI w base B0) := by
  subst hB
  rintro pre W W' row ⟨⟨v, hv, ho⟩, hlow, hsz⟩ hg hr
  have hne : ∀ {j : Nat} {o : Obj}, W.heap[j]? = some o → o.isCells = true → some j ≠ row := fun hj hc e => by
    obtain ⟨_, o', ho', hn⟩ := hr _ e.symm
    rw [hj] at ho'; cases ho'; rw [hc] at hn; cases hn
  refine ⟨⟨v, (hg.block B0 (by omega) (hne hv rfl)).trans hv, ownsRow_move ho fun g hg' => ?_⟩, hlow.grown hg (by omega) (fun k hk => by have := (hr k hk).1; omega), Nat.le_trans hsz hg.size⟩
  rcases ho.2 with ⟨rfl, _⟩ | ⟨g', cap, cur, rfl, _, hgg, _⟩
  · simp [Value.ownBlock] at hg'
  · simp only [Value.ownBlock, Option.some.injEq] at hg'
    subst hg'
    exact hg.block _ (Array.getElem?_eq_some_iff.1 hgg).1 (hne hgg rfl)
theorem kpJ_put {n0 l : Nat} {W : World} {o o' : Obj} (h : n0 ≤ l) (ho : W.heap[l]? = some o) (hc : o.isCells = false) : KpJ n0 W (W.putObj l o') := by
  refine ⟨⟨rfl, rfl, rfl, by simp, fun k hk => World.putObj_heap_other (by omega)⟩, ⟨by simp, fun j c t fr hj _ _ => (World.putObj_heap_other (fun e => ?_)).trans hj⟩⟩
  subst e
  rw [hj] at ho; cases ho; cases hc
/-- a number is put behind the others. -/
theorem ab_step {w W wA w5 : World} {base B0 g5 cap5 : Nat} {v : Value} {pre : List Int} {y : Int} (hv : W.heap[B0]? = some (.cells #[v] 38 (0, 0))) (ho : OwnI W B0 v pre) (hlow : Below base w W) (hsz : B0 + 3 ≤ W.heap.size) (hA : Below W.heap.size W wA)
    (hown : w5.ownsRow B0 3 1 (.slice (some ⟨g5, 0, none⟩) (pre.length + 1) cap5) (pre.length + 1) (flatI pre ++ [.int .i64 y])) (hg : wA.grownBy w5 v.ownBlock) (hbase : base ≤ B0) :
    w5.cell? ⟨B0, 0, none⟩ = some v ∧ w5.frozen? ⟨B0, 0, none⟩ = false ∧ (KeepsOthers W (w5.setCell ⟨B0, 0, none⟩ (.slice (some ⟨g5, 0, none⟩) (pre.length + 1) cap5)) ∧ KpJ B0 W (w5.setCell ⟨B0, 0, none⟩ (.slice (some ⟨g5, 0, none⟩) (pre.length + 1) cap5)) ∧ AbI w base B0 (pre ++ [y]) (w5.setCell ⟨B0, 0, none⟩ (.slice (some ⟨g5, 0, none⟩) (pre.length + 1) cap5))) := by
  have hlt0 : B0 < W.heap.size := by omega
  have hrow : ∀ g, v.ownBlock = some g → B0 ≤ g ∧ g < W.heap.size ∧ ∃ cur, W.heap[g]? = some (.cells cur 3 (0, 0)) := fun g hg' => by
    rcases ho.2 with ⟨rfl, _⟩ | ⟨g', cap, cur, rfl, hb, hgg, _⟩
    · simp [Value.ownBlock] at hg'
    · simp only [Value.ownBlock, Option.some.injEq] at hg'
      subst hg'
      exact ⟨hb, (Array.getElem?_eq_some_iff.1 hgg).1, cur, hgg⟩
  have hne0 : some B0 ≠ v.ownBlock := fun e => by
    obtain ⟨_, _, cur, hc⟩ := hrow B0 e.symm
    rw [hv] at hc
    injection hc with hc
    injection hc with _ h2
    exact absurd h2 (by decide)
  have hsA := hA.size
  have h5 : w5.heap[B0]? = some (.cells #[v] 38 (0, 0)) := (hg.block B0 (by omega) hne0).trans ((hA.block B0 hlt0).trans hv)
  have hp := heap_setCell_same w5 B0 0 _ _ (.slice (some ⟨g5, 0, none⟩) (pre.length + 1) cap5) h5
  have hk : ∀ j, j < W.heap.size → some j ≠ v.ownBlock → j ≠ B0 → (w5.setCell ⟨B0, 0, none⟩ (.slice (some ⟨g5, 0, none⟩) (pre.length + 1) cap5)).heap[j]? = W.heap[j]? := fun j hj h1 h2 =>
    (Below.heap_setCell _ _ _ _ h2).trans ((hg.block j (by omega) h1).trans (hA.block j hj))
  have hsz5 : W.heap.size ≤ (w5.setCell ⟨B0, 0, none⟩ (.slice (some ⟨g5, 0, none⟩) (pre.length + 1) cap5)).heap.size := by have := hg.size; simp; omega
  have hos : (w5.setCell ⟨B0, 0, none⟩ (.slice (some ⟨g5, 0, none⟩) (pre.length + 1) cap5)).os = W.os ∧ (w5.setCell ⟨B0, 0, none⟩ (.slice (some ⟨g5, 0, none⟩) (pre.length + 1) cap5)).tape = W.tape ∧ (w5.setCell ⟨B0, 0, none⟩ (.slice (some ⟨g5, 0, none⟩) (pre.length + 1) cap5)).output = W.output := ⟨hg.os.trans hA.os, hg.tape.trans hA.tape, hg.output.trans hA.output⟩
  have hb : Below B0 W (w5.setCell ⟨B0, 0, none⟩ (.slice (some ⟨g5, 0, none⟩) (pre.length + 1) cap5)) := ⟨hos.1, hos.2.1, hos.2.2, hsz5, fun j hj => hk j (by omega) (fun e => by have := (hrow j e.symm).1; omega) (by omega)⟩
  refine ⟨cell_of_row _ _ _ _ _ _ h5, frozen_of_row _ _ _ _ _ h5, ⟨hsz5, fun j o hj hc => ?_⟩, ⟨hb, ⟨hsz5, fun j c t fr hj h1 h2 => ?_⟩⟩, ⟨_, hp, ?_⟩, hlow.trans (hb.mono hbase), by omega⟩
  · have hjl := (Array.getElem?_eq_some_iff.1 hj).1
    refine (hk j hjl (fun e => ?_) (fun e => ?_)).trans hj
    · obtain ⟨_, _, cur, h⟩ := hrow j e.symm
      rw [hj] at h; cases h; cases hc
    · subst e; rw [hv] at hj; cases hj; cases hc
  · have hjl := (Array.getElem?_eq_some_iff.1 hj).1
    refine (hk j hjl (fun e => ?_) (fun e => ?_)).trans hj
    · obtain ⟨_, _, cur, h⟩ := hrow j e.symm
      rw [hj] at h; cases h; exact h1 rfl
    · subst e; rw [hv] at hj; cases hj; exact h2 rfl
  · have hown' : OwnI w5 B0 (.slice (some ⟨g5, 0, none⟩) (pre.length + 1) cap5) (pre ++ [y]) := by
      unfold OwnI
      rw [flatI_append, List.length_append]
      exact hown
    refine ownsRow_move hown' fun g hg' => Below.heap_setCell _ _ _ _ ?_
    simp only [Value.ownBlock, Option.some.injEq] at hg'
    subst hg'
    intro e
    dsimp only at e
    rcases hown.2 with ⟨e1, _⟩ | ⟨g', cap, cur, e1, _, hgg, _⟩
    · cases e1
    · cases e1
      rw [e, h5] at hgg
      injection hgg with hgg
      injection hgg with _ h2
      exact absurd h2 (by decide)
set_option maxRecDepth 100000 in
set_option maxHeartbeats 2000000 in
theorem Above_any (ao : Option Addr) (n cap : Nat) (L : List Jur) (x : Int) (w : World) (h : IsJurs w ao n cap L) :
    Calls Try.prog 21 #[.slice ao n cap, .int .i64 x] w fun e w' => ∃ v M, e = .returned v ∧ AboveIs L x M ∧ OwnI w' w.heap.size v M ∧ Below w.heap.size w w' := by
  obtain ⟨ce, hce⟩ : ∃ c, c = (checkP L).1 := ⟨_, rfl⟩
  obtain ⟨ci, hci⟩ : ∃ c, c = (checkP L).2 := ⟨_, rfl⟩
  have hck := Check_any ao n cap L w h
  rw [← hce, ← hci] at hck
  have HCK := Lib.hid hck
  have HCE := Lib.hid hce
  have HJ := Lib.hid h
  by_cases hc0 : ce = 0
  · subst hc0
    obtain ⟨ys, hch, hyl⟩ := chain_ex hce.symm x
    have HCH := Lib.hid hch
    clear h hck hce hci hch
    refine (callsIn_wide (n := 3)).1 ?_
    refine callsIn_of_wp_marks Try.func21 rfl trivial ?_ rfl
    simp only [Try.ntmps21, List.size_toArray, List.length_cons, List.length_nil, Nat.reduceAdd, Nat.reduceSub, Array.replicate_succ, Array.replicate_zero, List.push_toArray, List.append_toArray, List.nil_append, List.cons_append]
    gi_wp2_with fail
    refine ⟨trivial, ?_⟩
    refine (callsIn_wide.2 HCK.out).mono ?_
    rintro e w1 ⟨rfl, hg1⟩
    have HG1 := Lib.hid hg1
    clear hg1
    gi_wp2_with fail
    refine ⟨trivial, ?_⟩
    refine (callsIn_wide.2 (above_any ao n cap x _)).mono ?_
    rintro e w2 ⟨rfl, hw2⟩
    obtain ⟨B0, hB0⟩ : ∃ B, B = w1.heap.size := ⟨_, rfl⟩
    have a0 : w2.heap[B0]? = some (.cells #[.slice none 0 0] 38 (0, 0)) := by rw [← hw2, hB0]; exact (Below.heap_alloc _ _ _ (by simp; omega)).trans ((Below.heap_alloc _ _ _ (by simp)).trans (alloc_new _ _))
    have a1 : w2.heap[B0 + 1]? = some (.cells #[.slice ao n cap] 22 (0, 0)) := by rw [← hw2, hB0]; exact (Below.heap_alloc _ _ _ (by simp)).trans (alloc_new2 _ _ _)
    have a2 : w2.cell? ⟨B0 + 1 + 1, 0, none⟩ = some (.int .i64 x) := by
      rw [← hw2, hB0]
      have := alloc_cell ((w1.alloc (.cells #[.slice none 0 0] 38)).alloc (.cells #[.slice ao n cap] 22)) (.int .i64 x) 3
      simpa using this
    have hsz : w2.heap.size = B0 + 3 := by rw [← hw2, hB0]; simp
    have hg2 : Grew w1 w2 := by rw [← hw2]; exact (((Grew.refl _).alloc _).alloc _).alloc _
    have hbase : w.heap.size ≤ B0 := by rw [hB0]; exact HG1.out.size
    have hlow2 : Below B0 w1 w2 := by rw [hB0]; exact hg2.1
    have hw1 : w1.heap.size ≤ B0 := by omega
    have H2 := Lib.hid (And.intro a0 (And.intro a1 (And.intro a2 (And.intro hsz (And.intro (HG1.out.trans hg2) (And.intro hlow2 hw1))))))
    simp only [World.size_alloc, ← hB0]
    clear hw2 a0 a1 a2 hsz hg2 hB0 hlow2 hw1
    gi_wp2_with fail
    obtain ⟨i0, hi, hz0, hz1, hz2⟩ := info_parts' Try.infoInt
    refine wpIn_rangeFunc_ownF (w := w2) rfl (by omega) (gf := 50) (lb := #[.pointer (some ⟨B0 + 1, 0, none⟩), .pointer (some ⟨B0 + 1 + 1, 0, none⟩)]) rfl trivial (enters_of Try.func50 (by kernel_rfl) rfl)
      (above_stops ao n cap L (3 - 1) (B0 + 1) (B0 + 1 + 1) B0 x ys w2 HCH.out (fun A hA => (HJ.out.grew HG1.out).later (H2.out.2.2.2.2.2.1.trans hA) H2.out.2.2.2.2.2.2) (by rw [H2.out.2.2.2.1]; omega) H2.out.2.1 H2.out.2.2.1) (fun h k => ⟨h.1.trans k.1, h.2.trans k.2⟩) (fun W l o o' hl ho hc _ => kpJ_put (by rw [H2.out.2.2.2.1] at hl; omega) ho hc) (Below.refl _ _) (fun _ => rfl)
      (AbI w w.heap.size B0) (fun _ _ _ => False) (abI_own hbase H2.out.2.2.2.1) (fun c s W W' row h _ _ => h.elim) ⟨⟨_, H2.out.1, OwnI.nil _ _⟩, H2.out.2.2.2.2.1.1, by rw [H2.out.2.2.2.1]; exact Nat.le_refl _⟩
      (fun y => { tmps := #[.slice ao n cap, .int .i64 x, undef, undef, .slice none 0 0, .int .i64 0, .int .i64 ci, .pointer (some ⟨B0, 0, none⟩), .int .i64 y, .tuple #[.int .i64 0, .int .i64 ci], .slice ao n cap, .tuple #[.int .i64 0, .int .i64 ci], .int .i64 0, .int .i64 ci, .int .i64 0, .bool false, .slice ao n cap, .int .i64 x, .func (.func 50) #[] #[.pointer (some ⟨B0 + 1, 0, none⟩), .pointer (some ⟨B0 + 1 + 1, 0, none⟩)], .int .i64 y, undef, undef, undef, undef, undef], defers := [] }) ?assign ?body ?done ?stop
    case assign =>
      intro l y W K hK
      gi_wp2
      exact hK
    case body =>
      rintro l pre y W ⟨⟨v, hv, ho⟩, hlow, hsz⟩ hlt
      have c0 : W.cell? ⟨B0, 0, none⟩ = some v := cell_of_row _ _ _ _ _ _ hv
      have z0 : W.frozen? ⟨B0, 0, none⟩ = false := frozen_of_row _ _ _ _ _ hv
      have HV := Lib.hid (And.intro hv (And.intro ho (And.intro hlow hsz)))
      have hal : Below W.heap.size W (W.alloc (.cells #[.int .i64 y] 3)) := (Below.refl _ _).alloc (Nat.le_refl _) _
      have HAL := Lib.hid hal
      have hpl : pre.length ≤ 3 := by omega
      clear hv ho hlow hsz hal
      gi_wp2_with (gi_at_builtin; refine wpListIn_append_own _ rfl _ _ 38 rfl B0 3 i0 (.int .i64 0) 1 8 Try.underlying38 hi hz0 hz1 hz2 rfl (by decide) v _ _ rfl (HV.out.2.1.later HAL.out) ⟨W.heap.size, 0, none⟩ 1 1 [.int .i64 y] rfl rfl (cell_one_new _ _ _) (by simp [Value.oneCell']) (by unfold maxLen; omega) (by omega) (by have := HV.out.2.2.2; simp; omega) ?_; intro v' w5 hown5 hg5 _; obtain ⟨g5, cap5, rfl⟩ := ownsRow_succ hown5; obtain ⟨hc5, hf5, hres5⟩ := ab_step HV.out.1 HV.out.2.1 HV.out.2.2.1 HV.out.2.2.2 HAL.out hown5 hg5 hbase)
      exact hres5
    case done =>
      rintro D zs W hD rfl ⟨⟨v, hv, ho⟩, hlow, hsz⟩ hK
      have c0 : W.cell? ⟨B0, 0, none⟩ = some v := cell_of_row _ _ _ _ _ _ hv
      have hI2 := (abI_own hbase rfl).putObj (.deferred none) (s := zs) (W := W) ⟨⟨v, hv, ho⟩, hlow, hsz⟩ (l := D) (by rw [H2.out.2.2.2.1] at hD; exact hD) hK rfl
      obtain ⟨⟨v2, hv2, ho2⟩, hlow2, _⟩ := hI2
      have hv3 := (World.putObj_heap_other (w := W) (r := D) (o := .deferred none) (k := B0) (by rw [H2.out.2.2.2.1] at hD; omega)).trans hv
      rw [hv2] at hv3
      cases hv3
      have HF := Lib.hid (And.intro ho2 hlow2)
      clear hv2 ho2 hlow2 hv ho hlow hsz
      gi_wp2
      refine ⟨by simp, .inl ⟨_, _, rfl, run_takeDeferred hK, ?_⟩⟩
      refine ⟨_, results_tmp rfl _ _ _, v, zs, rfl, ⟨fun h => absurd HCE.out.symm h, fun _ => HCH.out⟩, HF.out.1.base hbase, HF.out.2⟩
    case stop =>
      rintro D c pre W _ _ h _
      exact h.elim
  · have hcb : (ce == 0) = false := by simpa using hc0
    have hcn : (ce != 0) = true := by simpa using hc0
    have HC0 := Lib.hid hc0
    clear h hck hce hci hc0
    go_enter Try.func21, Try.ntmps21
    go_wp2_with fail
    refine HCK.out.mono ?_
    rintro e w1 ⟨rfl, hg1⟩
    go_wp2_with fail
    go_ret
    exact ⟨_, [], rfl, ⟨fun _ => rfl, fun h => absurd h (by rw [← HCE.out]; exact HC0.out)⟩, OwnI.nil _ _, hg1.1⟩
end Go.Proofs.Ytbidappkmnedaaa
