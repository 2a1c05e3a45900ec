/- the reference's disk: rows of files, parted, joined, stored -/
import Derived.Test.YtmpjjkfbojhfoaaRApp
import Derived.Test.YtmpjjkfbojhfoaaRegD
namespace Go.Proofs.Ytmpjjkfbojhfoaa
open Go.RowKit
set_option linter.unusedSectionVars false
variable [Zone]
theorem Is3.take {w : World} {ty : TypeId} {ao : Option Addr} {n cap k : Nat} {T : List V3} (h : Is3 w ty ao n cap T) (hk : k ≤ n) : Is3 w ty ao k cap (T.take k) := by
  obtain ⟨h1, h2, h3, h4, h5, h6⟩ := h
  refine ⟨by rw [List.length_take, h1]; omega, by omega, h3, fun e => ⟨by have := (h4 e).1; omega, (h4 e).2⟩, fun u hu => h5 u (by rw [flat3_take] at hu; exact List.mem_of_mem_take hu), fun h0 => ?_⟩
  obtain ⟨b, off, c, fr, e, hb, hc⟩ := h6 (by omega)
  refine ⟨b, off, c, fr, e, hb, fun j u hu => hc j u ?_⟩
  rw [flat3_take, List.getElem?_take] at hu
  split at hu
  · exact hu
  · cases hu
theorem Is3.drop {w : World} {ty : TypeId} {b off : Nat} {n cap k : Nat} {T : List V3} (h : Is3 w ty (some ⟨b, off, none⟩) n cap T) (hk : k ≤ n) : Is3 w ty (some ⟨b, off + k * 3, none⟩) (n - k) (cap - k) (T.drop k) := by
  obtain ⟨h1, h2, h3, h4, h5, h6⟩ := h
  refine ⟨by rw [List.length_drop, h1], by omega, by omega, (fun e => by cases e), fun u hu => h5 u (by rw [flat3_drop] at hu; exact List.mem_of_mem_drop hu), fun h0 => ?_⟩
  obtain ⟨b', off', c, fr, e, hb, hc⟩ := h6 (by omega)
  injection e with e
  injection e with e1 e2
  subst e1
  subst e2
  refine ⟨_, _, c, fr, rfl, hb, fun j u hu => ?_⟩
  rw [flat3_drop, List.getElem?_drop] at hu
  rw [Nat.add_assoc]
  exact hc _ u hu
theorem Files3.take {w : World} {T : List V3} {R : List FileV} (h : Files3 w T R) (k : Nat) : Files3 w (T.take k) (R.take k) := by
  refine ⟨by simp [h.1], fun i hi => ?_⟩
  rw [List.length_take] at hi
  have e1 : (T.take k).getD i v30 = T.getD i v30 := by rw [List.getD_eq_getElem?_getD, List.getElem?_take, if_pos (by omega), ← List.getD_eq_getElem?_getD]
  have e2 : (R.take k).getD i f0 = R.getD i f0 := by rw [List.getD_eq_getElem?_getD, List.getElem?_take, if_pos (by omega), ← List.getD_eq_getElem?_getD]
  rw [e1, e2]
  exact h.2 i (by omega)
theorem Files3.drop {w : World} {T : List V3} {R : List FileV} (h : Files3 w T R) (k : Nat) : Files3 w (T.drop k) (R.drop k) := by
  refine ⟨by simp [h.1], fun i hi => ?_⟩
  rw [List.length_drop] at hi
  have e1 : (T.drop k).getD i v30 = T.getD (k + i) v30 := by rw [List.getD_eq_getElem?_getD, List.getElem?_drop, ← List.getD_eq_getElem?_getD]
  have e2 : (R.drop k).getD i f0 = R.getD (k + i) f0 := by rw [List.getD_eq_getElem?_getD, List.getElem?_drop, ← List.getD_eq_getElem?_getD]
  rw [e1, e2]
  exact h.2 _ (by omega)
theorem Files3.append {w : World} {T U : List V3} {R E : List FileV} (h : Files3 w T R) (k : Files3 w U E) : Files3 w (T ++ U) (R ++ E) := by
  refine ⟨by simp [h.1, k.1], fun i hi => ?_⟩
  simp only [List.length_append] at hi
  by_cases hl : i < R.length
  · have e1 : (T ++ U).getD i v30 = T.getD i v30 := by simp [List.getD_eq_getElem?_getD, List.getElem?_append_left (show i < T.length by rw [h.1]; exact hl)]
    have e2 : (R ++ E).getD i f0 = R.getD i f0 := by simp [List.getD_eq_getElem?_getD, List.getElem?_append_left hl]
    rw [e1, e2]
    exact h.2 i hl
  · have e1 : (T ++ U).getD i v30 = U.getD (i - R.length) v30 := by rw [← h.1]; simp [List.getD_eq_getElem?_getD, List.getElem?_append_right (show T.length ≤ i by rw [h.1]; omega)]
    have e2 : (R ++ E).getD i f0 = E.getD (i - R.length) f0 := by simp [List.getD_eq_getElem?_getD, List.getElem?_append_right (show R.length ≤ i by omega)]
    rw [e1, e2]
    exact k.2 _ (by omega)
def IsRFiles (w : World) (ao : Option Addr) (n cap : Nat) (R : List FileV) : Prop := ∃ T, Is3 w 90 ao n cap T ∧ Files3 w T R
def OwnF (w : World) (base : Nat) (v : Value) (R : List FileV) : Prop := ∃ T, Own3 w base 90 v T ∧ Files3 w T R
theorem IsRFiles.later {w w' : World} {ao : Option Addr} {n cap : Nat} {R : List FileV} (h : IsRFiles w ao n cap R) (hb : Below w.heap.size w w') : IsRFiles w' ao n cap R := by
  obtain ⟨T, h1, h2⟩ := h
  exact ⟨T, h1.later hb, h2.later hb⟩
theorem IsRFiles.len {w : World} {ao : Option Addr} {n cap : Nat} {R : List FileV} (h : IsRFiles w ao n cap R) : R.length = n ∧ n ≤ cap ∧ cap ≤ maxLen := by
  obtain ⟨T, h1, h2⟩ := h
  exact ⟨by rw [← h2.1, h1.1], h1.2.1, h1.2.2.1⟩
theorem IsRFiles.nil (w : World) : IsRFiles w none 0 0 [] := ⟨[], Is3.nil _ _, rfl, fun i h => absurd h (by simp)⟩
theorem IsRFiles.take {w : World} {ao : Option Addr} {n cap k : Nat} {R : List FileV} (h : IsRFiles w ao n cap R) (hk : k ≤ n) : IsRFiles w ao k cap (R.take k) := by
  obtain ⟨T, h1, h2⟩ := h
  exact ⟨T.take k, h1.take hk, h2.take k⟩
theorem IsRFiles.drop {w : World} {b off : Nat} {n cap k : Nat} {R : List FileV} (h : IsRFiles w (some ⟨b, off, none⟩) n cap R) (hk : k ≤ n) : IsRFiles w (some ⟨b, off + k * 3, none⟩) (n - k) (cap - k) (R.drop k) := by
  obtain ⟨T, h1, h2⟩ := h
  exact ⟨T.drop k, h1.drop hk, h2.drop k⟩
/-- as a slice from k on lies in the model: at the end of the row it lies at its beginning. -/
theorem IsRFiles.dropped {w : World} {b : Nat} {n cap k : Nat} {R : List FileV} (h : IsRFiles w (some ⟨b, 0, none⟩) n cap R) (hk : k ≤ n) : IsRFiles w (if cap = k then some ⟨b, 0, none⟩ else some ⟨b, k * 3, none⟩) (n - k) (cap - k) (R.drop k) := by
  have hl := h.len
  split
  · have e0 : n - k = 0 := by omega
    have e1 : R.drop k = [] := List.drop_eq_nil_of_le (by omega)
    rw [e1, e0]
    exact ⟨[], ⟨rfl, by omega, by unfold maxLen; omega, (fun e => by cases e), Ok3.nil, fun h => absurd h (by omega)⟩, rfl, fun i h => absurd h (by simp)⟩
  · have := h.drop hk
    rwa [Nat.zero_add] at this
theorem OwnF.lt {w : World} {base : Nat} {v : Value} {R : List FileV} (h : OwnF w base v R) {g : Nat} (hg : v.ownBlock = some g) : base ≤ g ∧ g < w.heap.size := by
  obtain ⟨T, h1, _⟩ := h
  exact h1.1.lt g hg
theorem OwnF.later {w w' : World} {base : Nat} {v : Value} {R : List FileV} (h : OwnF w base v R) (hb : Below w.heap.size w w') : OwnF w' base v R := by
  obtain ⟨T, h1, h2⟩ := h
  exact ⟨T, h1.later hb, h2.later hb⟩
theorem OwnF.none_new (w : World) (base : Nat) (hb : base ≤ w.heap.size) : OwnF (w.alloc (.cells #[] 90)) base (.slice (some ⟨w.heap.size, 0, none⟩) 0 0) [] := ⟨[], Own3.none_new w base _ hb, rfl, fun i h => absurd h (by simp)⟩
theorem OwnF.files {w : World} {base : Nat} {v : Value} {R : List FileV} (h : OwnF w base v R) : ∃ a cap, v = .slice a R.length cap ∧ IsRFiles w a R.length cap R := by
  obtain ⟨T, h1, h2⟩ := h
  obtain ⟨a, cap, e, h3⟩ := h1.is3
  rw [h2.1] at e h3
  exact ⟨a, cap, e, T, h3, h2⟩
theorem Own3.other {w : World} {base : Nat} {ty : TypeId} {v : Value} {T : List V3} (h : Own3 w base ty v T) {j : Nat} {c : Array Value} {ty' : TypeId} {fr : Nat × Nat} (hc : w.heap[j]? = some (Obj.cells c ty' fr)) (hne : ty' ≠ ty) : some j ≠ v.ownBlock := by
  intro e
  rcases h.1.2 with ⟨rfl, _⟩ | ⟨g, cap, cur, rfl, _, hg, _⟩
  · simp [Value.ownBlock] at e
  · simp only [Value.ownBlock, Option.some.injEq] at e
    subst e
    rw [hc] at hg
    injection hg with hg
    injection hg with _ hg
    exact hne hg
theorem Below.grownF {B : Nat} {w w1 w2 : World} {v : Value} {R : List FileV} (h : Below B w w1) (hown : OwnF w1 B v R) (hs : B ≤ w1.heap.size) (hg : w1.grownBy w2 v.ownBlock) : Below B w w2 := h.grown hg hs (fun _ hk => (hown.lt hk).1)
theorem opwp_append_files {w : World} {o : Oper} {a : Act} {K : Act → World → Prop} {Q : Exit → Act → World → Prop} (s x : Operand)
    (ho : o.op = .call { callee := .builtin .append, args := #[s, x], argTypes := #[41, 41] })
    (base : Nat) (v : Value) (R : List FileV) (hs : a.eval s = v) (hown : OwnF w base v R)
    (al : Option Addr) (m c : Nat) (E : List FileV) (hx : a.eval x = .slice al m c) (hsrc : IsRFiles w al m c E) (hnm : R.length + m ≤ 100000000) (hbase : base ≤ w.heap.size)
    (h : ∀ v' w', OwnF w' base v' (R ++ E) → w.grownBy w' v.ownBlock → K (a.put o.dst v') w') : o.wp Try.prog a w K Q := by
  obtain ⟨T, h1, h2⟩ := hown
  obtain ⟨U, k1, k2⟩ := hsrc
  refine opwp_append3 ty3_file s x ho base v T hs h1 al m c U hx k1 (by have := h2.1; omega) hbase (fun v' w' q1 q2 q3 => h v' w' ⟨T ++ U, q1, ?_⟩ q2)
  have hm : ∀ j off x, w.cell? ⟨j, off, none⟩ = some (.int .u8 x) → w'.heap[j]? = w.heap[j]? := fun j off x hc => q2.block j (block_lt_of_cell hc) (h1.u8 hc)
  have ha : ∀ (j : Nat) (c : Array Value) (fr : Nat × Nat), w.heap[j]? = some (Obj.cells c 92 fr) → w'.heap[j]? = w.heap[j]? := fun j c fr hc => q2.block j (heap_lt hc) (h1.other hc (by decide))
  exact (h2.moved hm ha).append (k2.moved hm ha)
theorem IsRFiles.one {w : World} {g : Nat} {t : V3} {x : FileV} (hg : w.heap[g]? = some (.cells #[t.1, t.2.1, t.2.2] 90 (0, 0))) (h : Ok3 [t]) (ht : IsRFile w t x) : IsRFiles w (some ⟨g, 0, none⟩) 1 1 [x] := by
  refine ⟨[t], Is3.at hg h, rfl, fun i hi => ?_⟩
  obtain rfl : i = 0 := by simpa using hi
  exact ht
theorem RefAt.rows' {w : World} {r base : Nat} {R : List FileV} {N lf : Int} {fz out : Bool} (h : RefAt w r base R N fz lf out) : ∃ a cap, RefRow w r (.slice a R.length cap) N fz lf out ∧ (R.length ≤ cap ∧ cap ≤ maxLen) ∧ IsRFiles w a R.length cap R := by
  obtain ⟨_, v, T, hr, hown, hf⟩ := h
  obtain ⟨a, cap, rfl, h3⟩ := hown.is3
  have hl := hf.1
  exact ⟨a, cap, hl ▸ hr, ⟨by rw [← hl]; exact h3.2.1, h3.2.2.1⟩, by rw [← hl]; exact ⟨T, h3, hf⟩⟩
/-- the list of files is another. -/
theorem RefAt.list {w w' : World} {r base : Nat} {R R' : List FileV} {N lf : Int} {fz out : Bool} {v' : Value} (h : RefAt w r base R N fz lf out) (hb : Below w.heap.size w w') (ho : OwnF w' w.heap.size v' R') :
    RefAt (w'.setCell ⟨r, 0, none⟩ v') r base R' N fz lf out ∧ MovedR r base w (w'.setCell ⟨r, 0, none⟩ v') := by
  obtain ⟨hbr, v, T, hr, hown, hf⟩ := h
  obtain ⟨T', k1, k2⟩ := ho
  have hrl := hr.lt
  have hr' : RefRow w' r v N fz lf out := (hb.block r hrl).trans hr
  have hrow : RefRow (w'.setCell ⟨r, 0, none⟩ v') r v' N fz lf out := by
    unfold RefRow
    unfold RefRow at hr'
    rw [heap_setCell_same w' r 0 _ _ v' hr']
    rfl
  have hpl : ∀ j o x, w'.cell? ⟨j, o, none⟩ = some (.int .u8 x) → (w'.setCell ⟨r, 0, none⟩ v').heap[j]? = w'.heap[j]? := by
    intro j o x hc
    refine Below.heap_setCell _ _ _ _ (fun e => ?_)
    obtain ⟨ao, cap, rfl, _⟩ := hown.is3
    have hp : Plain w' r := plain_of_cells hr' (by simp [plainV])
    have e' : j = r := e
    rw [e'] at hc
    have := hp _ _ hc
    simp [plainV] at this
  have hac : ∀ (j : Nat) (c : Array Value) (fr : Nat × Nat), w'.heap[j]? = some (Obj.cells c 92 fr) → (w'.setCell ⟨r, 0, none⟩ v').heap[j]? = w'.heap[j]? := by
    intro j c fr hj
    refine Below.heap_setCell _ _ _ _ ?_
    rintro rfl
    unfold RefRow at hr'
    rw [hr'] at hj
    injection hj with hj
    injection hj with _ hj
    exact absurd hj (by decide)
  refine ⟨⟨hbr, v', T', hrow, (k1.base (by omega)).move (fun g hg => Below.heap_setCell _ _ _ _ (fun e => ?_)), k2.moved hpl hac⟩, ⟨?_, fun j hj hjr _ => ?_, fun k hk => .inr ?_⟩⟩
  · have := (k1.1.lt g hg).1
    have e' : g = r := e
    omega
  · exact (hb.mono (by omega)).trans ⟨rfl, rfl, rfl, by simp, fun j hj => Below.heap_setCell _ _ _ _ (by dsimp only; omega)⟩
  · rw [Below.heap_setCell _ _ _ _ hjr]
    exact hb.block j hj
  · rw [listOf_row hrow] at hk
    exact (k1.1.lt k hk).1
end Go.Proofs.Ytmpjjkfbojhfoaa

/- the reference's disk: towards Append: a row of acts beside a row of bytes that grows -/
namespace Go.Proofs.Ytmpjjkfbojhfoaa
open Go.RowKit
set_option linter.unusedSectionVars false
variable [Zone]
theorem opwp_append_bytes {w : World} {o : Oper} {a : Act} {K : Act → World → Prop} {Q : Exit → Act → World → Prop} (s x : Operand)
    (ho : o.op = .call { callee := .builtin .append, args := #[s, x], argTypes := #[23, 23] })
    (base : Nat) (v : Value) (l : List UInt8) (hs : a.eval s = v) (hown : OwnB w base v l)
    (ao : Option Addr) (m c : Nat) (l2 : List UInt8) (hx : a.eval x = .slice ao m c) (hsrc : IsBytes w ao m c l2) (hnm : l.length + m ≤ 140737488355328) (hbase : base ≤ w.heap.size)
    (h : ∀ v' w', OwnB w' base v' (l ++ l2) → w.grownBy w' v.ownBlock → K (a.put o.dst v') w') : o.wp Try.prog a w K Q := by
  obtain ⟨v', w', hr, h2, h3, _⟩ := run_append_bytes o.type base v l hown ao m c l2 hsrc hnm hbase
  unfold Oper.wp execOp
  simp only [ho, resolve, invoke, builtin, Sem.run_bind, Sem.run_pure, Result.andThen_ok, List.map_toArray, List.map_cons, List.map_nil, hs, hx, hr]
  exact h v' w' h2 h3
/-- an empty row of bytes grows: a row of acts stays. -/
theorem OwnA.grownE {w w' : World} {base gu : Nat} {v : Value} {D : List Deed} {fr : Nat × Nat} (h : OwnA w base v D) (hg : w.grownBy w' (some gu)) (he : w.heap[gu]? = some (.cells #[] 5 fr)) : OwnA w' base v D := by
  obtain ⟨T, h1, h2⟩ := h
  have hne := h1.other he (by decide)
  refine ⟨T, h1.move (fun g hv => hg.block g (h1.1.lt g hv).2 (fun e => hne ?_)), h2.moved (fun j off x hc => hg.block j (block_lt_of_cell hc) (fun e => ?_))⟩
  · rw [← e, hv]
  · injection e with e
    subst e
    simp only [World.cell?, he] at hc
    simp at hc
/-- .. and acts that lie where they lay. -/
theorem IsRActs.grownE {w w' : World} {gu : Nat} {al : Option Addr} {m c : Nat} {D : List Deed} {fr : Nat × Nat} (h : IsRActs w al m c D) (hg : w.grownBy w' (some gu)) (he : w.heap[gu]? = some (.cells #[] 5 fr)) : IsRActs w' al m c D := by
  refine h.moved (fun j off x hc => hg.block j (block_lt_of_cell hc) (fun e => ?_)) (fun j c' fr' hc => hg.block j (heap_lt hc) (fun e => ?_))
  · injection e with e
    subst e
    simp only [World.cell?, he] at hc
    simp at hc
  · injection e with e
    subst e
    rw [he] at hc
    injection hc with hc
    injection hc with _ hc
    exact absurd hc (by decide)
/-- a row of acts grows: bytes stay. -/
theorem IsBytes.grownA {w w' : World} {base : Nat} {v : Value} {D : List Deed} {a : Option Addr} {n c : Nat} {B : List UInt8} (h : IsBytes w a n c B) (ho : OwnA w base v D) (hg : w.grownBy w' v.ownBlock) : IsBytes w' a n c B := by
  obtain ⟨T, h1, _⟩ := ho
  exact h.moved (fun j off x hc => hg.block j (block_lt_of_cell hc) (h1.u8 hc))
theorem Below.grownB {B : Nat} {w w1 w2 : World} {v : Value} {l : List UInt8} (h : Below B w w1) (hown : OwnB w1 B v l) (hs : B ≤ w1.heap.size) (hg : w1.grownBy w2 v.ownBlock) : Below B w w2 := h.grown hg hs (fun k hk => (hown.1.lt k hk).1)
theorem set_getD_self (R : List FileV) (k : Nat) (hk : k < R.length) : R.set k (R.getD k f0) = R := by
  apply List.ext_getElem?
  intro i
  rw [List.getElem?_set]
  split
  · rename_i e
    subst e
    rw [List.getD_eq_getElem?_getD, List.getElem?_eq_getElem hk]
    rfl
  · rfl
/-- where a name stands is where it stands first. -/
theorem AtR.is {s : ByteArray} {R : List FileV} {z : Int} {k : Nat} (h : AtR s R z) (hk : k < R.length) (hs : (R.getD k f0).1 = s) (hb : ∀ j, j < k → (R.getD j f0).1 ≠ s) : z = (k : Int) := by
  rcases h with ⟨i, rfl, hi, e, hbi⟩ | ⟨_, hn⟩
  · rcases Nat.lt_trichotomy i k with q | q | q
    · exact absurd e (hb i q)
    · rw [q]
    · exact absurd hs (hbi k q)
  · exact absurd hs (hn k hk)
theorem AtR.none {s : ByteArray} {R : List FileV} {z : Int} (h : AtR s R z) (hs : ∀ j, j < R.length → (R.getD j f0).1 ≠ s) : z = -1 := by
  rcases h with ⟨i, _, hi, e, _⟩ | ⟨e, _⟩
  · exact absurd e (hs i hi)
  · exact e
end Go.Proofs.Ytmpjjkfbojhfoaa
