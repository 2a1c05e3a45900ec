/- the reference's disk: rows of files, parted, joined, stored -/
import Derived.Test.YtjkkfjmloleedaaGreatRApp
import Derived.Test.YtjkkfjmloleedaaGreatRegD
import Derived.Test.YtjkkfjmloleedaaGreatDPart
namespace Go.Proofs.YtjkkfjmloleedaaGreat
open Go.RowKit
set_option linter.unusedSectionVars false
variable [Zone]
theorem Is3.take {w : World} {ty : TypeId} {ao : Option Addr} {n cap k : Nat} {T : List V3} (h : Is3 w ty ao n cap T) (hk : k ≤ n) : Is3 w ty ao k cap (T.take k) := by
  obtain ⟨h1, h2, h3, h4, h5, h6⟩ := h
  refine ⟨by rw [List.length_take, h1]; omega, by omega, h3, fun e => ⟨by have := (h4 e).1; omega, (h4 e).2⟩, fun u hu => h5 u (by rw [flat3_take] at hu; exact List.mem_of_mem_take hu), fun h0 => ?_⟩
  obtain ⟨b, off, c, fr, e, hb, hc⟩ := h6 (by omega)
  refine ⟨b, off, c, fr, e, hb, fun j u hu => hc j u ?_⟩
  rw [flat3_take, List.getElem?_take] at hu
  split at hu
  · exact hu
  · cases hu
theorem Is3.drop {w : World} {ty : TypeId} {b off : Nat} {n cap k : Nat} {T : List V3} (h : Is3 w ty (some ⟨b, off, none⟩) n cap T) (hk : k ≤ n) : Is3 w ty (some ⟨b, off + k * 3, none⟩) (n - k) (cap - k) (T.drop k) := by
  obtain ⟨h1, h2, h3, h4, h5, h6⟩ := h
  refine ⟨by rw [List.length_drop, h1], by omega, by omega, (fun e => by cases e), fun u hu => h5 u (by rw [flat3_drop] at hu; exact List.mem_of_mem_drop hu), fun h0 => ?_⟩
  obtain ⟨b', off', c, fr, e, hb, hc⟩ := h6 (by omega)
  injection e with e
  injection e with e1 e2
  subst e1
  subst e2
  refine ⟨_, _, c, fr, rfl, hb, fun j u hu => ?_⟩
  rw [flat3_drop, List.getElem?_drop] at hu
  rw [Nat.add_assoc]
  exact hc _ u hu
theorem Files3.take {w : World} {T : List V3} {R : List FileV} (h : Files3 w T R) (k : Nat) : Files3 w (T.take k) (R.take k) := by
  refine ⟨by simp [h.1], fun i hi => ?_⟩
  rw [List.length_take] at hi
  have e1 : (T.take k).getD i v30 = T.getD i v30 := by rw [List.getD_eq_getElem?_getD, List.getElem?_take, if_pos (by omega), ← List.getD_eq_getElem?_getD]
  have e2 : (R.take k).getD i f0 = R.getD i f0 := by rw [List.getD_eq_getElem?_getD, List.getElem?_take, if_pos (by omega), ← List.getD_eq_getElem?_getD]
  rw [e1, e2]
  exact h.2 i (by omega)
theorem Files3.drop {w : World} {T : List V3} {R : List FileV} (h : Files3 w T R) (k : Nat) : Files3 w (T.drop k) (R.drop k) := by
  refine ⟨by simp [h.1], fun i hi => ?_⟩
  rw [List.length_drop] at hi
  have e1 : (T.drop k).getD i v30 = T.getD (k + i) v30 := by rw [List.getD_eq_getElem?_getD, List.getElem?_drop, ← List.getD_eq_getElem?_getD]
  have e2 : (R.drop k).getD i f0 = R.getD (k + i) f0 := by rw [List.getD_eq_getElem?_getD, List.getElem?_drop, ← List.getD_eq_getElem?_getD]
  rw [e1, e2]
  exact h.2 _ (by omega)
theorem Files3.append {w : World} {T U : List V3} {R E : List FileV} (h : Files3 w T R) (k : Files3 w U E) : Files3 w (T ++ U) (R ++ E) := by
  refine ⟨by simp [h.1, k.1], fun i hi => ?_⟩
  simp only [List.length_append] at hi
  by_cases hl : i < R.length
  · have e1 : (T ++ U).getD i v30 = T.getD i v30 := by simp [List.getD_eq_getElem?_getD, List.getElem?_append_left (show i < T.length by rw [h.1]; exact hl)]
    have e2 : (R ++ E).getD i f0 = R.getD i f0 := by simp [List.getD_eq_getElem?_getD, List.getElem?_append_left hl]
    rw [e1, e2]
    exact h.2 i hl
  · have e1 : (T ++ U).getD i v30 = U.getD (i - R.length) v30 := by rw [← h.1]; simp [List.getD_eq_getElem?_getD, List.getElem?_append_right (show T.length ≤ i by rw [h.1]; omega)]
    have e2 : (R ++ E).getD i f0 = E.getD (i - R.length) f0 := by simp [List.getD_eq_getElem?_getD, List.getElem?_append_right (show R.length ≤ i by omega)]
    rw [e1, e2]
    exact k.2 _ (by omega)
def IsRFiles (w : World) (ao : Option Addr) (n cap : Nat) (R : List FileV) : Prop := ∃ T, Is3 w 86 ao n cap T ∧ Files3 w T R
def OwnF (w : World) (base : Nat) (v : Value) (R : List FileV) : Prop := ∃ T, Own3 w base 86 v T ∧ Files3 w T R
theorem IsRFiles.later {w w' : World} {ao : Option Addr} {n cap : Nat} {R : List FileV} (h : IsRFiles w ao n cap R) (hb : Below w.heap.size w w') : IsRFiles w' ao n cap R := by
  obtain ⟨T, h1, h2⟩ := h
  exact ⟨T, h1.later hb, h2.later hb⟩
theorem IsRFiles.len {w : World} {ao : Option Addr} {n cap : Nat} {R : List FileV} (h : IsRFiles w ao n cap R) : R.length = n ∧ n ≤ cap ∧ cap ≤ maxLen := by
  obtain ⟨T, h1, h2⟩ := h
  exact ⟨by rw [← h2.1, h1.1], h1.2.1, h1.2.2.1⟩
theorem IsRFiles.nil (w : World) : IsRFiles w none 0 0 [] := ⟨[], Is3.nil _ _, rfl, fun i h => absurd h (by simp)⟩
theorem IsRFiles.take {w : World} {ao : Option Addr} {n cap k : Nat} {R : List FileV} (h : IsRFiles w ao n cap R) (hk : k ≤ n) : IsRFiles w ao k cap (R.take k) := by
  obtain ⟨T, h1, h2⟩ := h
  exact ⟨T.take k, h1.take hk, h2.take k⟩
theorem IsRFiles.drop {w : World} {b off : Nat} {n cap k : Nat} {R : List FileV} (h : IsRFiles w (some ⟨b, off, none⟩) n cap R) (hk : k ≤ n) : IsRFiles w (some ⟨b, off + k * 3, none⟩) (n - k) (cap - k) (R.drop k) := by
  obtain ⟨T, h1, h2⟩ := h
  exact ⟨T.drop k, h1.drop hk, h2.drop k⟩
/-- as a slice from k on lies in the model: at the end of the row it lies at its beginning. -/
theorem IsRFiles.dropped {w : World} {b : Nat} {n cap k : Nat} {R : List FileV} (h : IsRFiles w (some ⟨b, 0, none⟩) n cap R) (hk : k ≤ n) : IsRFiles w (if cap = k then some ⟨b, 0, none⟩ else some ⟨b, k * 3, none⟩) (n - k) (cap - k) (R.drop k) := by
  have hl := h.len
  split
  · have e0 : n - k = 0 := by omega
    have e1 : R.drop k = [] := List.drop_eq_nil_of_le (by omega)
    rw [e1, e0]
    exact ⟨[], ⟨rfl, by omega, by unfold maxLen; omega, (fun e => by cases e), Ok3.nil, fun h => absurd h (by omega)⟩, rfl, fun i h => absurd h (by simp)⟩
  · have := h.drop hk
    rwa [Nat.zero_add] at this
theorem OwnF.lt {w : World} {base : Nat} {v : Value} {R : List FileV} (h : OwnF w base v R) {g : Nat} (hg : v.ownBlock = some g) : base ≤ g ∧ g < w.heap.size := by
  obtain ⟨T, h1, _⟩ := h
  exact h1.1.lt g hg
theorem OwnF.later {w w' : World} {base : Nat} {v : Value} {R : List FileV} (h : OwnF w base v R) (hb : Below w.heap.size w w') : OwnF w' base v R := by
  obtain ⟨T, h1, h2⟩ := h
  exact ⟨T, h1.later hb, h2.later hb⟩
theorem OwnF.none_new (w : World) (base : Nat) (hb : base ≤ w.heap.size) : OwnF (w.alloc (.cells #[] 86)) base (.slice (some ⟨w.heap.size, 0, none⟩) 0 0) [] := ⟨[], Own3.none_new w base _ hb, rfl, fun i h => absurd h (by simp)⟩
theorem OwnF.files {w : World} {base : Nat} {v : Value} {R : List FileV} (h : OwnF w base v R) : ∃ a cap, v = .slice a R.length cap ∧ IsRFiles w a R.length cap R := by
  obtain ⟨T, h1, h2⟩ := h
  obtain ⟨a, cap, e, h3⟩ := h1.is3
  rw [h2.1] at e h3
  exact ⟨a, cap, e, T, h3, h2⟩
theorem Own3.other {w : World} {base : Nat} {ty : TypeId} {v : Value} {T : List V3} (h : Own3 w base ty v T) {j : Nat} {c : Array Value} {ty' : TypeId} {fr : Nat × Nat} (hc : w.heap[j]? = some (Obj.cells c ty' fr)) (hne : ty' ≠ ty) : some j ≠ v.ownBlock := by
  intro e
  rcases h.1.2 with ⟨rfl, _⟩ | ⟨g, cap, cur, rfl, _, hg, _⟩
  · simp [Value.ownBlock] at e
  · simp only [Value.ownBlock, Option.some.injEq] at e
    subst e
    rw [hc] at hg
    injection hg with hg
    injection hg with _ hg
    exact hne hg
theorem Below.grownF {B : Nat} {w w1 w2 : World} {v : Value} {R : List FileV} (h : Below B w w1) (hown : OwnF w1 B v R) (hs : B ≤ w1.heap.size) (hg : w1.grownBy w2 v.ownBlock) : Below B w w2 := h.grown hg hs (fun _ hk => (hown.lt hk).1)
theorem opwp_append_files {w : World} {o : Oper} {a : Act} {K : Act → World → Prop} {Q : Exit → Act → World → Prop} (s x : Operand)
    (ho : o.op = .call { callee := .builtin .append, args := #[s, x], argTypes := #[27, 27] })
    (base : Nat) (v : Value) (R : List FileV) (hs : a.eval s = v) (hown : OwnF w base v R)
    (al : Option Addr) (m c : Nat) (E : List FileV) (hx : a.eval x = .slice al m c) (hsrc : IsRFiles w al m c E) (hnm : R.length + m ≤ 100000000) (hbase : base ≤ w.heap.size)
    (h : ∀ v' w', OwnF w' base v' (R ++ E) → w.grownBy w' v.ownBlock → K (a.put o.dst v') w') : o.wp Tryz.prog a w K Q := by
  obtain ⟨T, h1, h2⟩ := hown
  obtain ⟨U, k1, k2⟩ := hsrc
  refine opwp_append3 ty3_file s x ho base v T hs h1 al m c U hx k1 (by have := h2.1; omega) hbase (fun v' w' q1 q2 q3 => h v' w' ⟨T ++ U, q1, ?_⟩ q2)
  have hm : ∀ j off x, w.cell? ⟨j, off, none⟩ = some (.int .u8 x) → w'.heap[j]? = w.heap[j]? := fun j off x hc => q2.block j (block_lt_of_cell hc) (h1.u8 hc)
  have ha : ∀ (j : Nat) (c : Array Value) (fr : Nat × Nat), w.heap[j]? = some (Obj.cells c 97 fr) → w'.heap[j]? = w.heap[j]? := fun j c fr hc => q2.block j (heap_lt hc) (h1.other hc (by decide))
  exact (h2.moved hm ha).append (k2.moved hm ha)
theorem IsRFiles.one {w : World} {g : Nat} {t : V3} {x : FileV} (hg : w.heap[g]? = some (.cells #[t.1, t.2.1, t.2.2] 86 (0, 0))) (h : Ok3 [t]) (ht : IsRFile w t x) : IsRFiles w (some ⟨g, 0, none⟩) 1 1 [x] := by
  refine ⟨[t], Is3.at hg h, rfl, fun i hi => ?_⟩
  obtain rfl : i = 0 := by simpa using hi
  exact ht
theorem RefAt.rows' {w : World} {r base : Nat} {R : List FileV} {N lf : Int} {fz out : Bool} (h : RefAt w r base R N fz lf out) : ∃ a cap, RefRow w r (.slice a R.length cap) N fz lf out ∧ (R.length ≤ cap ∧ cap ≤ maxLen) ∧ IsRFiles w a R.length cap R := by
  obtain ⟨_, v, T, hr, hown, hf⟩ := h
  obtain ⟨a, cap, rfl, h3⟩ := hown.is3
  have hl := hf.1
  exact ⟨a, cap, hl ▸ hr, ⟨by rw [← hl]; exact h3.2.1, h3.2.2.1⟩, by rw [← hl]; exact ⟨T, h3, hf⟩⟩
/-- the list of files is another. -/
theorem RefAt.list {w w' : World} {r base : Nat} {R R' : List FileV} {N lf : Int} {fz out : Bool} {v' : Value} (h : RefAt w r base R N fz lf out) (hb : Below w.heap.size w w') (ho : OwnF w' w.heap.size v' R') :
    RefAt (w'.setCell ⟨r, 0, none⟩ v') r base R' N fz lf out ∧ MovedR r base w (w'.setCell ⟨r, 0, none⟩ v') := by
  obtain ⟨hbr, v, T, hr, hown, hf⟩ := h
  obtain ⟨T', k1, k2⟩ := ho
  have hrl := hr.lt
  have hr' : RefRow w' r v N fz lf out := (hb.block r hrl).trans hr
  have hrow : RefRow (w'.setCell ⟨r, 0, none⟩ v') r v' N fz lf out := by
    unfold RefRow
    unfold RefRow at hr'
    rw [heap_setCell_same w' r 0 _ _ v' hr']
    rfl
  have hpl : ∀ j o x, w'.cell? ⟨j, o, none⟩ = some (.int .u8 x) → (w'.setCell ⟨r, 0, none⟩ v').heap[j]? = w'.heap[j]? := by
    intro j o x hc
    refine Below.heap_setCell _ _ _ _ (fun e => ?_)
    obtain ⟨ao, cap, rfl, _⟩ := hown.is3
    have hp : Plain w' r := plain_of_cells hr' (by simp [plainV])
    have e' : j = r := e
    rw [e'] at hc
    have := hp _ _ hc
    simp [plainV] at this
  have hac : ∀ (j : Nat) (c : Array Value) (fr : Nat × Nat), w'.heap[j]? = some (Obj.cells c 97 fr) → (w'.setCell ⟨r, 0, none⟩ v').heap[j]? = w'.heap[j]? := by
    intro j c fr hj
    refine Below.heap_setCell _ _ _ _ ?_
    rintro rfl
    unfold RefRow at hr'
    rw [hr'] at hj
    injection hj with hj
    injection hj with _ hj
    exact absurd hj (by decide)
  refine ⟨⟨hbr, v', T', hrow, (k1.base (by omega)).move (fun g hg => Below.heap_setCell _ _ _ _ (fun e => ?_)), k2.moved hpl hac⟩, ⟨?_, fun j hj hjr _ => ?_, fun k hk => .inr ?_⟩⟩
  · have := (k1.1.lt g hg).1
    have e' : g = r := e
    omega
  · exact (hb.mono (by omega)).trans ⟨rfl, rfl, rfl, by simp, fun j hj => Below.heap_setCell _ _ _ _ (by dsimp only; omega)⟩
  · rw [Below.heap_setCell _ _ _ _ hjr]
    exact hb.block j hj
  · rw [listOf_row hrow] at hk
    exact (k1.1.lt k hk).1
end Go.Proofs.YtjkkfjmloleedaaGreat

/- the reference's disk: remove -/
set_option linter.unusedSimpArgs false
namespace Go.Proofs.YtjkkfjmloleedaaGreat
open Go.RowKit
set_option linter.unusedSectionVars false
variable [Zone]
theorem RefAt.rows {w : World} {r base : Nat} {R : List FileV} {N lf : Int} {fz out : Bool} (h : RefAt w r base R N fz lf out) : ∃ a cap, RefRow w r (.slice a R.length cap) N fz lf out ∧ IsRFiles w a R.length cap R ∧ (0 < R.length → ∃ g, a = some ⟨g, 0, none⟩) ∧ r < w.heap.size ∧ ∀ w', Below w.heap.size w w' → w'.frozen? ⟨r, 0, none⟩ = false := by
  obtain ⟨hbr, v, T, hr, hown, hf⟩ := h
  have hrl := hr.lt
  have hfz : ∀ w', Below w.heap.size w w' → w'.frozen? ⟨r, 0, none⟩ = false := fun w' hb => frozen_of_row _ _ _ _ _ ((hb.block r hrl).trans hr)
  rcases hown.1.2 with ⟨rfl, h0⟩ | ⟨g, cap, cur, rfl, _, hg, _⟩
  · have hT : T = [] := List.eq_nil_of_length_eq_zero h0
    subst hT
    have hR : R = [] := List.eq_nil_of_length_eq_zero hf.1.symm
    subst hR
    exact ⟨none, 0, hr, IsRFiles.nil w, fun h => absurd h (by simp), hrl, hfz⟩
  · obtain ⟨ao, cap', e, h3⟩ := hown.is3
    injection e with e1 e2 e3
    subst e1
    subst e3
    have hl := hf.1
    refine ⟨_, _, hl ▸ hr, hl ▸ ⟨T, h3, hf⟩, fun _ => ⟨g, rfl⟩, hrl, hfz⟩
set_option maxRecDepth 100000 in
set_option maxHeartbeats 4000000 in
theorem remove_any (k : Nat) (r base : Nat) (R : List FileV) (N : Int) (fz : Bool) (lf : Int) (out : Bool) (w : World) (h : RefAt w r base R N fz lf out) (hk : k < R.length) (hR : R.length ≤ 1000000) :
    Calls Tryz.prog 70 #[.pointer (some ⟨r, 0, none⟩), .int .i64 (k : Int)] w fun e w' => e = .returned (.tuple #[]) ∧ RefAt w' r base (R.take k ++ R.drop (k + 1)) N fz lf out ∧ MovedR r base w w' := by
  obtain ⟨a, cap, hr, hfl, hg, hrl, hfz⟩ := h.rows
  obtain ⟨g, rfl⟩ := hg (by omega)
  obtain ⟨n, hn⟩ : ∃ n, n = R.length := ⟨_, rfl⟩
  rw [← hn] at hr hfl hk hR
  have hcap := hfl.len.2.1
  have hcm := hfl.len.2.2
  unfold maxLen at hcm
  have r0 : w.cell? ⟨r, 0, none⟩ = some (.slice (some ⟨g, 0, none⟩) n cap) := hr.cells.1
  have hd := hfl.dropped (show k + 1 ≤ n by omega)
  have HX : Hid ((IsRFiles w (some ⟨g, 0, none⟩) k cap (R.take k) ∧ IsRFiles w (if cap = k + 1 then some ⟨g, 0, none⟩ else some ⟨g, (k + 1) * 3, none⟩) (n - (k + 1)) (cap - (k + 1)) (R.drop (k + 1))) ∧ (R.length ≤ 1000000) ∧ r < w.heap.size) := Lib.hid ⟨⟨hfl.take (by omega), hd⟩, by omega, hrl⟩
  have HH := Lib.hid h
  have HFZ := Lib.hid hfz
  have hk0 : (0 : Int) ≤ (k : Int) := by omega
  have hk1 : (k : Int) ≤ (cap : Int) := by omega
  have hw1 : IntKind.i64.wrap ((k : Int) + 1) = ((k + 1 : Nat) : Int) := by
    rw [IntWalk.i64_in _ (by omega)]
    omega
  have hk2 : (k : Int) + 1 ≤ (n : Int) := by omega
  have hk3 : (0 : Int) ≤ (k : Int) + 1 := by omega
  clear hr hfl hd h hfz hg hn
  go_enter Tryz.func70, Tryz.ntmps70
  refine wp_region_D 19 (S := fun w' => w'.cell? ⟨r, 0, none⟩ = some (.slice (some ⟨g, 0, none⟩) n cap)) (by kernel_rfl) ?hS0 (fun hHeld => ?_)
  case hS0 => (exact ((Below.refl w.heap.size w).drew.cell (p := ⟨r, 0, none⟩) HX.out.2.2).trans r0)
  refine anyD_take (i := 0) (v := ?v1) rfl (by kernel_rfl) (by kernel_rfl) (by kernel_rfl) (by kernel_rfl) (fun _ _ _ h => h) (Or.inl ⟨?hw1, ?hy1⟩) (by assumption) ?_
  case hw1 => rfl
  case hy1 => (intro w hSw; (try dsimp only at hSw); go_simp; (first | done | with_reducible rfl))
  try simp only [Act.put, List.setIfInBounds_toArray, List.set_cons_zero, List.set_cons_succ]
  refine anyD_take (i := 2) (v := ?v2) rfl (by kernel_rfl) (by kernel_rfl) (by kernel_rfl) (by kernel_rfl) (fun _ _ _ h => h) (Or.inl ⟨?hw2, ?hy2⟩) (by assumption) ?_
  case hw2 => rfl
  case hy2 => (intro w hSw; (try dsimp only at hSw); go_simp; (first | done | with_reducible rfl))
  try simp only [Act.put, List.setIfInBounds_toArray, List.set_cons_zero, List.set_cons_succ]
  refine anyD_take (i := 3) (v := ?v3) rfl (by kernel_rfl) (by kernel_rfl) (by kernel_rfl) (by kernel_rfl) (fun _ _ _ h => h) (Or.inl ⟨?hw3, ?hy3⟩) (by assumption) ?_
  case hw3 => rfl
  case hy3 => (intro w hSw; (try dsimp only at hSw); go_simp; (first | done | with_reducible rfl))
  try simp only [Act.put, List.setIfInBounds_toArray, List.set_cons_zero, List.set_cons_succ]
  refine anyD_take (i := 4) (v := ?v4) rfl (by kernel_rfl) (by kernel_rfl) (by kernel_rfl) (by kernel_rfl) (fun _ _ _ h => h) (Or.inl ⟨?hw4, ?hy4⟩) (by assumption) ?_
  case hw4 => rfl
  case hy4 => (intro w hSw; (try dsimp only at hSw); go_simp; (first | done | with_reducible rfl))
  try simp only [Act.put, List.setIfInBounds_toArray, List.set_cons_zero, List.set_cons_succ]
  refine anyD_take (i := 5) (v := ?v5) rfl (by kernel_rfl) (by kernel_rfl) (by kernel_rfl) (by kernel_rfl) (fun _ _ _ h => h) (Or.inl ⟨?hw5, ?hy5⟩) (by assumption) ?_
  case hw5 => rfl
  case hy5 => (intro w hSw; (try dsimp only at hSw); go_simp; (first | done | with_reducible rfl))
  try simp only [Act.put, List.setIfInBounds_toArray, List.set_cons_zero, List.set_cons_succ]
  refine anyD_take (i := 6) (v := ?v6) rfl (by kernel_rfl) (by kernel_rfl) (by kernel_rfl) (by kernel_rfl) (fun _ _ _ h => h) (Or.inl ⟨?hw6, ?hy6⟩) (by assumption) ?_
  case hw6 => rfl
  case hy6 => (intro w hSw; (try dsimp only at hSw); go_simp; (first | done | with_reducible rfl))
  try simp only [Act.put, List.setIfInBounds_toArray, List.set_cons_zero, List.set_cons_succ]
  refine anyD_take (i := 7) (v := ?v7) rfl (by kernel_rfl) (by kernel_rfl) (by kernel_rfl) (by kernel_rfl) (fun _ _ _ h => h) (Or.inl ⟨?hw7, ?hy7⟩) (by assumption) ?_
  case hw7 => rfl
  case hy7 => (intro w hSw; (try dsimp only at hSw); go_simp; (first | done | with_reducible rfl))
  try simp only [Act.put, List.setIfInBounds_toArray, List.set_cons_zero, List.set_cons_succ]
  refine anyD_take (i := 9) (v := ?v8) rfl (by kernel_rfl) (by kernel_rfl) (by kernel_rfl) (by kernel_rfl) (fun _ _ _ h => h) (Or.inl ⟨?hw8, ?hy8⟩) (by assumption) ?_
  case hw8 => rfl
  case hy8 => (intro w hSw; (try dsimp only at hSw); go_simp; (first | done | with_reducible rfl))
  try simp only [Act.put, List.setIfInBounds_toArray, List.set_cons_zero, List.set_cons_succ]
  refine anyD_take (i := 10) (v := ?v9) rfl (by kernel_rfl) (by kernel_rfl) (by kernel_rfl) (by kernel_rfl) (fun _ _ _ h => h) (Or.inl ⟨?hw9, ?hy9⟩) (by assumption) ?_
  case hw9 => rfl
  case hy9 => (intro w hSw; (try dsimp only at hSw); go_simp; (first | done | with_reducible rfl))
  try simp only [Act.put, List.setIfInBounds_toArray, List.set_cons_zero, List.set_cons_succ]
  refine anyD_take (i := 11) (v := ?v10) rfl (by kernel_rfl) (by kernel_rfl) (by kernel_rfl) (by kernel_rfl) (fun _ _ _ h => h) (Or.inl ⟨?hw10, ?hy10⟩) (by assumption) ?_
  case hw10 => rfl
  case hy10 => (intro w hSw; (try dsimp only at hSw); go_simp; (first | done | with_reducible rfl))
  try simp only [Act.put, List.setIfInBounds_toArray, List.set_cons_zero, List.set_cons_succ]
  refine anyD_take (i := 12) (v := ?v11) rfl (by kernel_rfl) (by kernel_rfl) (by kernel_rfl) (by kernel_rfl) (fun _ _ _ h => h) (Or.inl ⟨?hw11, ?hy11⟩) (by assumption) ?_
  case hw11 => rfl
  case hy11 => (intro w hSw; (try dsimp only at hSw); go_simp; (first | done | with_reducible rfl))
  try simp only [Act.put, List.setIfInBounds_toArray, List.set_cons_zero, List.set_cons_succ]
  refine anyD_take (i := 13) (v := ?v12) rfl (by kernel_rfl) (by kernel_rfl) (by kernel_rfl) (by kernel_rfl) (fun _ _ _ h => h) (Or.inl ⟨?hw12, ?hy12⟩) (by assumption) ?_
  case hw12 => rfl
  case hy12 => (intro w hSw; (try dsimp only at hSw); go_simp; (first | done | with_reducible rfl))
  try simp only [Act.put, List.setIfInBounds_toArray, List.set_cons_zero, List.set_cons_succ]
  refine anyD_take (i := 14) (v := ?v13) rfl (by kernel_rfl) (by kernel_rfl) (by kernel_rfl) (by kernel_rfl) (fun _ _ _ h => h) (Or.inl ⟨?hw13, ?hy13⟩) (by assumption) ?_
  case hw13 => rfl
  case hy13 => (intro w hSw; (try dsimp only at hSw); go_simp; (first | done | with_reducible rfl))
  try simp only [Act.put, List.setIfInBounds_toArray, List.set_cons_zero, List.set_cons_succ]
  refine anyD_take (i := 15) (v := ?v14) rfl (by kernel_rfl) (by kernel_rfl) (by kernel_rfl) (by kernel_rfl) (fun _ _ _ h => h) (Or.inl ⟨?hw14, ?hy14⟩) (by assumption) ?_
  case hw14 => rfl
  case hy14 => (intro w hSw; (try dsimp only at hSw); go_simp; (first | done | with_reducible rfl))
  try simp only [Act.put, List.setIfInBounds_toArray, List.set_cons_zero, List.set_cons_succ]
  refine anyD_ready (rs := [1]) (by kernel_rfl) (by simp) ?_
  refine AllD.cons (o := _) rfl (fun K hK => ?step15) ?_
  case step15 =>
    go_simp
    have hb1 : Below w.heap.size w (w.alloc (.cells #[] 86)).drew := ((Below.refl w.heap.size w).alloc (Nat.le_refl _) _).drew
    have o1 : OwnF (w.alloc (.cells #[] 86)).drew w.heap.size (.slice (some ⟨w.heap.size, 0, none⟩) 0 0) [] := (OwnF.none_new w _ (Nat.le_refl _)).later (Below.refl _ _).drew
    generalize (w.alloc (.cells #[] 86)).drew = X1 at hb1 o1 ⊢
    refine hK.out _ _ ?hS15 (fun hHeld => ?_)
    case hS15 => (intro _; (exact (hb1.cell (p := ⟨r, 0, none⟩) HX.out.2.2).trans r0))
    replace hHeld := hHeld (by decide)
    clear hK K
    try simp only [Act.put, List.setIfInBounds_toArray, List.set_cons_zero, List.set_cons_succ]
    refine anyD_ready (rs := [8]) (by kernel_rfl) (by simp) ?_
    refine AllD.cons (o := _) rfl (fun K hK => ?step16) ?_
    case step16 =>
      rw [if_pos (by rfl)]
      refine opwp_append_files _ _ rfl w.heap.size (.slice (some ⟨w.heap.size, 0, none⟩) 0 0) [] rfl o1 (some ⟨g, 0, none⟩) k cap (R.take k) rfl (HX.out.1.1.later hb1) (by have := HX.out.2.1; simp; omega) hb1.size ?_
      intro v8 X8 o8 g8
      have hb8 := Below.grownF hb1 o1 hb1.size g8
      rw [List.nil_append] at o8
      clear g8
      refine hK.out _ _ ?hS16 (fun hHeld => ?_)
      case hS16 => (intro _; (exact (hb8.cell (p := ⟨r, 0, none⟩) HX.out.2.2).trans r0))
      replace hHeld := hHeld (by decide)
      clear hK K
      try simp only [Act.put, List.setIfInBounds_toArray, List.set_cons_zero, List.set_cons_succ]
      refine anyD_ready (rs := [16]) (by kernel_rfl) (by simp) ?_
      refine AllD.cons (o := _) rfl (fun K hK => ?step17) ?_
      case step17 =>
        rw [if_pos (by rfl)]
        refine opwp_append_files _ _ rfl w.heap.size v8 (R.take k) rfl o8 _ _ _ (R.drop (k + 1)) rfl (HX.out.1.2.later hb8) (by have := HX.out.2.1; simp; omega) hb8.size ?_
        intro v16 X16 o16 g16
        have hb16 := Below.grownF hb8 o8 hb8.size g16
        obtain ⟨a16, c16, hv16, _⟩ := o16.files
        have HO16 := Lib.hid o16
        obtain ⟨m16, hm16⟩ : ∃ m16, m16 = (R.take k ++ R.drop (k + 1)).length := ⟨_, rfl⟩
        rw [← hm16] at hv16
        subst hv16
        have q16 : X16.cell? ⟨r, 0, none⟩ = some (.slice (some ⟨g, 0, none⟩) n cap) := (hb16.cell (p := ⟨r, 0, none⟩) HX.out.2.2).trans r0
        have f16 : X16.frozen? ⟨r, 0, none⟩ = false := HFZ.out X16 hb16
        clear g16 o16 hm16
        refine hK.out _ _ ?hS17 (fun hHeld => ?_)
        case hS17 => (intro _; (exact (hb16.cell (p := ⟨r, 0, none⟩) HX.out.2.2).trans r0))
        replace hHeld := hHeld (by decide)
        clear hK K
        try simp only [Act.put, List.setIfInBounds_toArray, List.set_cons_zero, List.set_cons_succ]
        refine anyD_ready (rs := [17]) (by kernel_rfl) (by simp) ?_
        refine AllD.cons (o := _) rfl (fun K hK => ?step18) ?_
        case step18 =>
          go_simp
          refine hK.out _ _ ?hS18 (fun hHeld => ?_)
          case hS18 => (intro _; (exact (hb16.cell (p := ⟨r, 0, none⟩) HX.out.2.2).trans r0))
          replace hHeld := hHeld (by decide)
          clear hK K
          try simp only [Act.put, List.setIfInBounds_toArray, List.set_cons_zero, List.set_cons_succ]
          refine anyD_take (i := 18) (v := ?v19) rfl (by kernel_rfl) (by kernel_rfl) (by kernel_rfl) (by kernel_rfl) (fun _ _ _ h => h) (Or.inl ⟨?hw19, ?hy19⟩) (by assumption) ?_
          case hw19 => rfl
          case hy19 => (intro w hSw; (try dsimp only at hSw); go_simp; (first | done | with_reducible rfl))
          try simp only [Act.put, List.setIfInBounds_toArray, List.set_cons_zero, List.set_cons_succ]
          refine anyD_ready (rs := [19]) (by kernel_rfl) (by simp) ?_
          refine AllD.cons (o := _) rfl (fun K hK => ?step20) ?_
          case step20 =>
            go_simp
            refine hK.out _ _ ?hS20 (fun hHeld => ?_)
            case hS20 => exact fun h => absurd rfl h
            clear hK K
            try simp only [Act.put, List.setIfInBounds_toArray, List.set_cons_zero, List.set_cons_succ]
            refine anyD_done (by kernel_rfl) ?_ _
            have HE := Lib.hid (HH.out.list hb16 HO16.out)
            go_end0
            exact ⟨rfl, HE.out⟩
          exact AllD.nil
        exact AllD.nil
      exact AllD.nil
    exact AllD.nil
  exact AllD.nil
end Go.Proofs.YtjkkfjmloleedaaGreat

/- the reference's disk: Remove -/
namespace Go.Proofs.YtjkkfjmloleedaaGreat
open Go.RowKit
set_option linter.unusedSectionVars false
variable [Zone]
set_option maxRecDepth 100000 in
set_option maxHeartbeats 2000000 in
theorem rRemove_any (s : ByteArray) (r base : Nat) (R : List FileV) (N : Int) (fz : Bool) (lf : Int) (out : Bool) (w : World) (hN0 : 0 ≤ N) (hN1 : N ≤ 1000000) (hl0 : 0 ≤ lf) (hl1 : lf ≤ 9223372036854775807) (h : RefAt w r base R N fz lf out) (hR : R.length ≤ 1000000) :
    Calls Tryz.prog 27 #[.pointer (some ⟨r, 0, none⟩), .string s] w fun e w' => RCall s r base R (fun k => R.take k ++ R.drop (k + 1)) N fz lf out w e w' := by
  have HAt := Lib.hid (At_any s r base R N fz lf out w h)
  obtain ⟨v, hrow⟩ := h.row
  have r4 := hrow.cells.2.2.2.2
  have H := Lib.hid (And.intro h hR)
  clear h hR hrow
  go_enter Tryz.func27, Tryz.ntmps27
  go_wp2_with fail
  refine HAt.out.mono ?_
  rintro e w' ⟨z, rfl, hz, rfl⟩
  have HZ := Lib.hid hz
  cases out with
  | true =>
    go_wp2_with fail
    go_ret
    exact .inl ⟨rfl, rfl, rfl⟩
  | false =>
    rcases hz with ⟨k, rfl, hk, _, _⟩ | ⟨rfl, _⟩
    · have hk0 : ¬ (k : Int) < 0 := by omega
      have hk1 : (0 : Int) ≤ (k : Int) := by omega
      have HKK := Lib.hid hk
      clear hk
      go_wp2_with fail
      refine (rstep_any r base R N fz lf false w hN0 hN1 hl0 hl1 H.out.1).mono ?_
      rintro e W ⟨hmv, ⟨hq, rfl, hout⟩ | ⟨hq, rfl, hW⟩⟩
      · have HQ := Lib.hid (And.intro hmv (And.intro hq hout))
        clear hmv hq hout
        go_wp2_with fail
        go_ret
        exact .inr ⟨rfl, _, HZ.out, .inr ⟨hk1, HQ.out.1, .inl ⟨HQ.out.2.1, rfl, HQ.out.2.2⟩⟩⟩
      · have HQ := Lib.hid (And.intro hmv (And.intro hq hW))
        clear hmv hq hW
        go_wp2_with fail
        refine (remove_any k r base R (N + 1) fz (if fz = true then lf - 1 else lf) false W HQ.out.2.2 HKK.out H.out.2).mono ?_
        rintro e w2 ⟨rfl, hR2, hM2⟩
        have H2 := Lib.hid (And.intro hR2 hM2)
        clear hR2 hM2
        go_wp2_with fail
        go_ret
        exact .inr ⟨rfl, _, HZ.out, .inr ⟨hk1, HQ.out.1.trans H2.out.2, .inr ⟨HQ.out.2.1, rfl, H2.out.1⟩⟩⟩
    · go_wp2_with fail
      go_ret
      exact .inr ⟨rfl, -1, HZ.out, .inl ⟨by omega, rfl, rfl⟩⟩
end Go.Proofs.YtjkkfjmloleedaaGreat

/- the reference's disk: towards Append: a row of acts beside a row of bytes that grows -/
namespace Go.Proofs.YtjkkfjmloleedaaGreat
open Go.RowKit
set_option linter.unusedSectionVars false
variable [Zone]
theorem opwp_append_bytes {w : World} {o : Oper} {a : Act} {K : Act → World → Prop} {Q : Exit → Act → World → Prop} (s x : Operand)
    (ho : o.op = .call { callee := .builtin .append, args := #[s, x], argTypes := #[36, 36] })
    (base : Nat) (v : Value) (l : List UInt8) (hs : a.eval s = v) (hown : OwnB w base v l)
    (ao : Option Addr) (m c : Nat) (l2 : List UInt8) (hx : a.eval x = .slice ao m c) (hsrc : IsBytes w ao m c l2) (hnm : l.length + m ≤ 140737488355328) (hbase : base ≤ w.heap.size)
    (h : ∀ v' w', OwnB w' base v' (l ++ l2) → w.grownBy w' v.ownBlock → K (a.put o.dst v') w') : o.wp Tryz.prog a w K Q := by
  obtain ⟨v', w', hr, h2, h3, _⟩ := run_append_bytes o.type base v l hown ao m c l2 hsrc hnm hbase
  unfold Oper.wp execOp
  simp only [ho, resolve, invoke, builtin, Sem.run_bind, Sem.run_pure, Result.andThen_ok, List.map_toArray, List.map_cons, List.map_nil, hs, hx, hr]
  exact h v' w' h2 h3
/-- an empty row of bytes grows: a row of acts stays. -/
theorem OwnA.grownE {w w' : World} {base gu : Nat} {v : Value} {D : List Deed} {fr : Nat × Nat} (h : OwnA w base v D) (hg : w.grownBy w' (some gu)) (he : w.heap[gu]? = some (.cells #[] 5 fr)) : OwnA w' base v D := by
  obtain ⟨T, h1, h2⟩ := h
  have hne := h1.other he (by decide)
  refine ⟨T, h1.move (fun g hv => hg.block g (h1.1.lt g hv).2 (fun e => hne ?_)), h2.moved (fun j off x hc => hg.block j (block_lt_of_cell hc) (fun e => ?_))⟩
  · rw [← e, hv]
  · injection e with e
    subst e
    simp only [World.cell?, he] at hc
    simp at hc
/-- .. and acts that lie where they lay. -/
theorem IsRActs.grownE {w w' : World} {gu : Nat} {al : Option Addr} {m c : Nat} {D : List Deed} {fr : Nat × Nat} (h : IsRActs w al m c D) (hg : w.grownBy w' (some gu)) (he : w.heap[gu]? = some (.cells #[] 5 fr)) : IsRActs w' al m c D := by
  refine h.moved (fun j off x hc => hg.block j (block_lt_of_cell hc) (fun e => ?_)) (fun j c' fr' hc => hg.block j (heap_lt hc) (fun e => ?_))
  · injection e with e
    subst e
    simp only [World.cell?, he] at hc
    simp at hc
  · injection e with e
    subst e
    rw [he] at hc
    injection hc with hc
    injection hc with _ hc
    exact absurd hc (by decide)
/-- a row of acts grows: bytes stay. -/
theorem IsBytes.grownA {w w' : World} {base : Nat} {v : Value} {D : List Deed} {a : Option Addr} {n c : Nat} {B : List UInt8} (h : IsBytes w a n c B) (ho : OwnA w base v D) (hg : w.grownBy w' v.ownBlock) : IsBytes w' a n c B := by
  obtain ⟨T, h1, _⟩ := ho
  exact h.moved (fun j off x hc => hg.block j (block_lt_of_cell hc) (h1.u8 hc))
theorem Below.grownB {B : Nat} {w w1 w2 : World} {v : Value} {l : List UInt8} (h : Below B w w1) (hown : OwnB w1 B v l) (hs : B ≤ w1.heap.size) (hg : w1.grownBy w2 v.ownBlock) : Below B w w2 := h.grown hg hs (fun k hk => (hown.1.lt k hk).1)
theorem set_getD_self (R : List FileV) (k : Nat) (hk : k < R.length) : R.set k (R.getD k f0) = R := by
  apply List.ext_getElem?
  intro i
  rw [List.getElem?_set]
  split
  · rename_i e
    subst e
    rw [List.getD_eq_getElem?_getD, List.getElem?_eq_getElem hk]
    rfl
  · rfl
/-- where a name stands is where it stands first. -/
theorem AtR.is {s : ByteArray} {R : List FileV} {z : Int} {k : Nat} (h : AtR s R z) (hk : k < R.length) (hs : (R.getD k f0).1 = s) (hb : ∀ j, j < k → (R.getD j f0).1 ≠ s) : z = (k : Int) := by
  rcases h with ⟨i, rfl, hi, e, hbi⟩ | ⟨_, hn⟩
  · rcases Nat.lt_trichotomy i k with q | q | q
    · exact absurd e (hb i q)
    · rw [q]
    · exact absurd hs (hbi k q)
  · exact absurd hs (hn k hk)
theorem AtR.none {s : ByteArray} {R : List FileV} {z : Int} (h : AtR s R z) (hs : ∀ j, j < R.length → (R.getD j f0).1 ≠ s) : z = -1 := by
  rcases h with ⟨i, _, hi, e, _⟩ | ⟨e, _⟩
  · exact absurd e (hs i hi)
  · exact e
end Go.Proofs.YtjkkfjmloleedaaGreat

/- the reference's disk: name -/
namespace Go.Proofs.YtjkkfjmloleedaaGreat
open Go.RowKit
set_option maxRecDepth 100000 in
theorem rname_any (nm : ByteArray) (w : World) (hnm : nm.size ≤ 1099511627776) : Calls Tryz.prog 63 #[.string nm] w fun e w' => e = .returned (.bool (nameP nm.data.toList)) ∧ w = w' := by
  go_enter Tryz.func63, Tryz.ntmps63
  go_wp2
  go_loopw [3] (fun i wr => ∃ k : Nat, k ≤ nm.size ∧ i = .int .i64 k ∧ Hid (∀ j (hj : j < nm.size), j < k → 33 ≤ (nm[j]'hj).toNat ∧ (nm[j]'hj).toNat ≤ 126) ∧ w = wr) (fun i _ => nm.size - (intOf i).toNat)
  case atStart => exact ⟨0, by omega, rfl, Lib.hid (fun j hj h => absurd h (by omega)), rfl⟩
  case round =>
    obtain ⟨k, hk, rfl, hall, rfl⟩ := hrel
    by_cases hlt : k < nm.size
    · have hk0 : (0 : Int) ≤ (k : Int) := by omega
      have hk1 : (k : Int) < (nm.size : Int) := by omega
      by_cases hr1 : ((nm[k].toNat : Nat) : Int) < 33
      · have hbad := Lib.hid (name_bad hlt (.inl (by omega)))
        go_wp2
        go_ret
        exact ⟨by rw [hbad.out]; rfl, rfl⟩
      by_cases hr2 : (126 : Int) < ((nm[k].toNat : Nat) : Int)
      · have hbad := Lib.hid (name_bad hlt (.inr (by omega)))
        go_wp2
        go_ret
        exact ⟨by rw [hbad.out]; rfl, rfl⟩
      go_wp2
      go_roundw
      case rel =>
        refine ⟨k + 1, by omega, by go_num, Lib.hid (fun j hj h => ?_), trivial⟩
        by_cases hjk : j < k
        · exact hall.out j hj hjk
        · obtain rfl : j = k := by omega
          omega
      case measure => simp [intOf]; omega
    · obtain rfl : k = nm.size := by omega
      have HF := Lib.hid (name_fit (fun j hj => hall.out j hj hj))
      by_cases h1 : (1 : Int) ≤ (nm.size : Int)
      · by_cases h2 : (nm.size : Int) ≤ 64
        · go_wp2
          go_ret
          exact ⟨by rw [HF.out]; simp; omega, rfl⟩
        · go_wp2
          go_ret
          exact ⟨by rw [HF.out]; simp; omega, rfl⟩
      · go_wp2
        go_ret
        exact ⟨by rw [HF.out]; simp; omega, rfl⟩
end Go.Proofs.YtjkkfjmloleedaaGreat
