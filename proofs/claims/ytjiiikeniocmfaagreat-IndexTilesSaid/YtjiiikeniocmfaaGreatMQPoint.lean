/- plain law: slabs (heights, edges, how many count): no program in sight -/
import Derived.Test.YtjiiikeniocmfaaGreatMGeo8
import Derived.Test.YtjiiikeniocmfaaGreatMSInts
import Derived.Shelf.Bits.Mul64
import Derived.Test.YtjiiikeniocmfaaGreatProg
import Derived.Test.YtjiiikeniocmfaaGreatMQPts
namespace Go.Geo
/-- an edge, from its lower end on; none, if it is level. -/
def edgeP (a b : Pt) : Option (Pt × Pt) := if b.y < a.y then some (b, a) else if a.y = b.y then none else some (a, b)
def slabL (l : List Pt) : List (Pt × Pt) := (List.range l.length).filterMap fun i => edgeP (l.getD i p0) (atP l (i + 1))
def edgesP (R : List (List Pt)) : List (Pt × Pt) := R.flatMap slabL
def upB (y : Int) (e : Pt × Pt) : Bool := decide (e.1.y ≤ y) && decide (y < e.2.y)
def slabE (E : List (Pt × Pt)) (y : Int) : List (Pt × Pt) := E.filter (upB y)
/-- put in order, each once. -/
def insH (y : Int) : List Int → List Int
  | [] => [y]
  | h :: t => if h < y then h :: insH y t else if h = y then h :: t else y :: h :: t
def heightsP (R : List (List Pt)) : List Int := R.flatten.foldl (fun H p => insH p.y H) []
theorem insH_mem (y z : Int) : ∀ H : List Int, z ∈ insH y H ↔ z = y ∨ z ∈ H
  | [] => by simp [insH]
  | h :: t => by
    unfold insH
    by_cases h1 : h < y
    · rw [if_pos h1, List.mem_cons, List.mem_cons, insH_mem y z t]
      constructor
      · rintro (h | h | h) <;> simp [h]
      · rintro (h | h | h) <;> simp [h]
    · rw [if_neg h1]
      by_cases h2 : h = y
      · rw [if_pos h2]
        subst h2
        simp
      · rw [if_neg h2]
        simp
theorem insH_sorted (y : Int) : ∀ {H : List Int}, H.Pairwise (· < ·) → (insH y H).Pairwise (· < ·)
  | [], _ => by simp [insH]
  | h :: t, hs => by
    rw [List.pairwise_cons] at hs
    unfold insH
    by_cases h1 : h < y
    · rw [if_pos h1, List.pairwise_cons]
      refine ⟨fun z hz => ?_, insH_sorted y hs.2⟩
      rcases (insH_mem y z t).1 hz with rfl | hz
      · exact h1
      · exact hs.1 z hz
    · rw [if_neg h1]
      by_cases h2 : h = y
      · rw [if_pos h2]; exact List.pairwise_cons.2 hs
      · rw [if_neg h2]
        refine List.pairwise_cons.2 ⟨fun z hz => ?_, List.pairwise_cons.2 hs⟩
        rcases List.mem_cons.1 hz with rfl | hz
        · omega
        · have := hs.1 z hz; omega
theorem heights_fold : ∀ (L : List Pt) (H : List Int), H.Pairwise (· < ·) → (L.foldl (fun H p => insH p.y H) H).Pairwise (· < ·) ∧ ∀ z, z ∈ L.foldl (fun H p => insH p.y H) H ↔ z ∈ H ∨ z ∈ L.map Pt.y
  | [], H, hs => ⟨hs, fun z => by simp⟩
  | p :: L, H, hs => by
    obtain ⟨h1, h2⟩ := heights_fold L (insH p.y H) (insH_sorted _ hs)
    refine ⟨h1, fun z => ?_⟩
    rw [List.foldl_cons, h2, insH_mem, List.map_cons, List.mem_cons]
    constructor
    · rintro ((h | h) | h) <;> simp [h]
    · rintro (h | h | h) <;> simp [h]
theorem heights_sorted (R : List (List Pt)) : (heightsP R).Pairwise (· < ·) := (heights_fold R.flatten [] List.Pairwise.nil).1
theorem heights_mem (R : List (List Pt)) (z : Int) : z ∈ heightsP R ↔ z ∈ R.flatten.map Pt.y := by
  have := (heights_fold R.flatten [] List.Pairwise.nil).2 z
  unfold heightsP
  rw [this]
  simp
theorem sorted_same : ∀ {H K : List Int}, H.Pairwise (· < ·) → K.Pairwise (· < ·) → (∀ z, z ∈ H ↔ z ∈ K) → H = K
  | [], [], _, _, _ => rfl
  | [], k :: K, _, _, h => absurd ((h k).2 (by simp)) (by simp)
  | a :: H, [], _, _, h => absurd ((h a).1 (by simp)) (by simp)
  | a :: H, k :: K, h1, h2, h => by
    rw [List.pairwise_cons] at h1 h2
    have hak : a = k := by
      rcases List.mem_cons.1 ((h a).1 (by simp)) with e | e
      · exact e
      · rcases List.mem_cons.1 ((h k).2 (by simp)) with e2 | e2
        · exact e2.symm
        · have := h1.1 k e2; have := h2.1 a e; omega
    subst hak
    rw [sorted_same h1.2 h2.2 fun z => ?_]
    constructor
    · intro hz
      rcases List.mem_cons.1 ((h z).1 (by simp [hz])) with e | e
      · have := h1.1 z hz; omega
      · exact e
    · intro hz
      rcases List.mem_cons.1 ((h z).2 (by simp [hz])) with e | e
      · have := h2.1 z hz; omega
      · exact e
/-- how many heights are no higher. -/
def kH (H : List Int) (y : Int) : Nat := H.countP (fun h => decide (h ≤ y))
theorem kH_le (H : List Int) (y : Int) : kH H y ≤ H.length := List.countP_le_length
theorem kH_low {H : List Int} (hs : H.Pairwise (· < ·)) (y : Int) : ∀ j, j < kH H y → H.getD j 0 ≤ y := by
  induction H with
  | nil => intro j hj; simp [kH] at hj
  | cons a H ih =>
    rw [List.pairwise_cons] at hs
    intro j hj
    unfold kH at hj
    rw [List.countP_cons] at hj
    cases j with
    | zero =>
      show a ≤ y
      by_cases ha : a ≤ y
      · exact ha
      · have : H.countP (fun h => decide (h ≤ y)) = 0 := List.countP_eq_zero.2 fun b hb => by have := hs.1 b hb; simp; omega
        rw [this] at hj
        simp [ha] at hj
    | succ j =>
      refine ih hs.2 j ?_
      unfold kH
      split at hj <;> omega
theorem kH_high {H : List Int} (hs : H.Pairwise (· < ·)) (y : Int) : ∀ j, kH H y ≤ j → j < H.length → y < H.getD j 0 := by
  induction H with
  | nil => intro j _ hj; simp at hj
  | cons a H ih =>
    rw [List.pairwise_cons] at hs
    intro j hk hj
    unfold kH at hk
    rw [List.countP_cons] at hk
    cases j with
    | zero =>
      show y < a
      by_cases ha : a ≤ y
      · simp [ha] at hk
      · omega
    | succ j =>
      show y < H.getD j 0
      rw [List.length_cons] at hj
      by_cases ha : a ≤ y
      · rw [if_pos (by simpa using ha)] at hk
        exact ih hs.2 j (by unfold kH; omega) (by omega)
      · have hm : H.getD j 0 ∈ H := by
          rw [List.getD_eq_getElem?_getD, List.getElem?_eq_getElem (by omega)]
          exact List.getElem_mem _
        have := hs.1 _ hm
        omega
theorem getD_memI {H : List Int} {j : Nat} (hj : j < H.length) : H.getD j 0 ∈ H := by
  rw [List.getD_eq_getElem?_getD, List.getElem?_eq_getElem hj]
  exact List.getElem_mem _
theorem mem_getI {H : List Int} {z : Int} (hz : z ∈ H) : ∃ j, j < H.length ∧ H.getD j 0 = z := by
  obtain ⟨j, hj, e⟩ := List.mem_iff_getElem.1 hz
  exact ⟨j, hj, by rw [List.getD_eq_getElem?_getD, List.getElem?_eq_getElem hj]; exact e⟩
theorem sorted_lt {H : List Int} (hs : H.Pairwise (· < ·)) {i j : Nat} (hij : i < j) (hj : j < H.length) : H.getD i 0 < H.getD j 0 := by
  rw [List.getD_eq_getElem?_getD, List.getD_eq_getElem?_getD, List.getElem?_eq_getElem (by omega), List.getElem?_eq_getElem hj]
  exact List.pairwise_iff_getElem.1 hs i j (by omega) hj hij
/-- edges whose ends' heights are among the heights. -/
def EdgesOn (E : List (Pt × Pt)) (H : List Int) : Prop := ∀ e ∈ E, e.1.y ∈ H ∧ e.2.y ∈ H ∧ e.1.y < e.2.y
theorem up_slab {H : List Int} (hs : H.Pairwise (· < ·)) {e : Pt × Pt} (h1 : e.1.y ∈ H) (h2 : e.2.y ∈ H) (y : Int) (hk : 0 < kH H y) : upB y e = upB (H.getD (kH H y - 1) 0) e := by
  have hle := kH_le H y
  have hlo := kH_low hs y (kH H y - 1) (by omega)
  obtain ⟨i, hi, ei⟩ := mem_getI h1
  obtain ⟨j, hj, ej⟩ := mem_getI h2
  unfold upB
  have a1 : decide (e.1.y ≤ y) = decide (e.1.y ≤ H.getD (kH H y - 1) 0) := by
    by_cases hik : i < kH H y
    · have := kH_low hs y i hik
      have h3 : H.getD i 0 ≤ H.getD (kH H y - 1) 0 := by
        by_cases h4 : i = kH H y - 1
        · rw [h4]; exact Int.le_refl _
        · exact Int.le_of_lt (sorted_lt hs (by omega) (by omega))
      rw [decide_eq_true (by omega), decide_eq_true (by omega)]
    · have := kH_high hs y i (by omega) hi
      rw [decide_eq_false (by omega), decide_eq_false (by omega)]
  have a2 : decide (y < e.2.y) = decide (H.getD (kH H y - 1) 0 < e.2.y) := by
    by_cases hjk : j < kH H y
    · have := kH_low hs y j hjk
      have h3 : H.getD j 0 ≤ H.getD (kH H y - 1) 0 := by
        by_cases h4 : j = kH H y - 1
        · rw [h4]; exact Int.le_refl _
        · exact Int.le_of_lt (sorted_lt hs (by omega) (by omega))
      rw [decide_eq_false (by omega), decide_eq_false (by omega)]
    · have := kH_high hs y j (by omega) hj
      rw [decide_eq_true (by omega), decide_eq_true (by omega)]
  rw [a1, a2]
theorem up_none {H : List Int} (hs : H.Pairwise (· < ·)) {e : Pt × Pt} (h1 : e.1.y ∈ H) (h2 : e.2.y ∈ H) (y : Int) (hk : kH H y = 0 ∨ kH H y = H.length) : upB y e = false := by
  obtain ⟨i, hi, ei⟩ := mem_getI h1
  obtain ⟨j, hj, ej⟩ := mem_getI h2
  unfold upB
  rcases hk with hk | hk
  · have := kH_high hs y i (by omega) hi
    rw [decide_eq_false (by omega : ¬ e.1.y ≤ y), Bool.false_and]
  · have := kH_low hs y j (by omega)
    rw [decide_eq_false (by omega : ¬ y < e.2.y), Bool.and_false]
/-- how many edges of the slab at a point's height count for it. -/
def crossS (E : List (Pt × Pt)) (H : List Int) (p : Pt) : Nat :=
  if validP p = false ∨ kH H p.y = 0 ∨ kH H p.y = H.length then 0 else (slabE E (H.getD (kH H p.y - 1) 0)).countP (fun e => decide (turnP e.1 e.2 p = 1))
theorem crossS_eq {E : List (Pt × Pt)} {H : List Int} (hs : H.Pairwise (· < ·)) (hE : EdgesOn E H) (p : Pt) : crossS E H p = E.countP (fun e => upB p.y e && decide (turnP e.1 e.2 p = 1)) := by
  unfold crossS
  by_cases h0 : validP p = false ∨ kH H p.y = 0 ∨ kH H p.y = H.length
  · rw [if_pos h0]
    symm
    refine List.countP_eq_zero.2 fun e he => ?_
    rcases h0 with h0 | h0
    · have : turnP e.1 e.2 p = 0 := by unfold turnP; rw [h0, Bool.and_false, if_neg (by simp)]
      rw [this]; simp
    · rw [up_none hs (hE e he).1 (hE e he).2.1 p.y h0]; simp
  · rw [if_neg h0]
    unfold slabE
    rw [List.countP_filter]
    refine List.countP_congr fun e he => ?_
    rw [up_slab hs (hE e he).1 (hE e he).2.1 p.y (by omega), Bool.and_comm]
theorem counts_edge (p a b : Pt) : countsP p a b = match edgeP a b with | none => false | some e => upB p.y e && decide (turnP e.1 e.2 p = 1) := by
  unfold edgeP countsP
  have hv : ∀ u v : Pt, turnP u v p = 1 → validP u = true ∧ validP v = true ∧ validP p = true := fun u v h => by
    unfold turnP at h
    split at h
    · rename_i h2
      rw [Bool.and_eq_true, Bool.and_eq_true] at h2
      exact ⟨h2.1.1, h2.1.2, h2.2⟩
    · cases h
  by_cases h1 : b.y < a.y
  · rw [if_pos h1, if_pos h1]
    simp only [upB]
    by_cases ht : turnP b a p = 1
    · obtain ⟨v1, v2, v3⟩ := hv _ _ ht
      rw [v1, v2, v3]; simp
    · rw [decide_eq_false ht]; simp
  · rw [if_neg h1, if_neg h1]
    by_cases h2 : a.y = b.y
    · rw [if_pos h2]
      have : (decide (a.y ≤ p.y) && decide (p.y < b.y)) = false := by simp; omega
      rw [this]; simp
    · rw [if_neg h2]
      simp only [upB]
      by_cases ht : turnP a b p = 1
      · obtain ⟨v1, v2, v3⟩ := hv _ _ ht
        rw [v1, v2, v3]; simp
      · rw [decide_eq_false ht]; simp
theorem countP_filterMap_range {α : Type} (f : Nat → Option α) (q : α → Bool) : ∀ n, ((List.range n).filterMap f).countP q = cntB n (fun i => match f i with | none => false | some e => q e)
  | 0 => rfl
  | n + 1 => by
    rw [List.range_succ, List.filterMap_append, List.countP_append, countP_filterMap_range f q n, cntB]
    congr 1
    cases h : f n with
    | none => simp [h]
    | some e => simp [h, List.countP_cons]
theorem slabL_count (p : Pt) (l : List Pt) : (slabL l).countP (fun e => upB p.y e && decide (turnP e.1 e.2 p = 1)) = countK p l := by
  unfold slabL countK
  rw [countP_filterMap_range]
  exact cntB_congr _ fun i _ => by rw [counts_edge]; cases edgeP (l.getD i p0) (atP l (i + 1)) <;> rfl
def crossR (p : Pt) (R : List (List Pt)) : Nat := (R.map (countK p)).sum
theorem edgesP_count (p : Pt) : ∀ R : List (List Pt), (edgesP R).countP (fun e => upB p.y e && decide (turnP e.1 e.2 p = 1)) = crossR p R
  | [] => rfl
  | l :: R => by
    unfold edgesP crossR
    rw [List.flatMap_cons, List.countP_append, slabL_count, List.map_cons, List.sum_cons]
    congr 1
    exact edgesP_count p R
theorem edgeP_some {a b : Pt} {e : Pt × Pt} (h : edgeP a b = some e) : (e = (a, b) ∨ e = (b, a)) ∧ e.1.y < e.2.y := by
  unfold edgeP at h
  split at h
  · cases h; exact ⟨.inr rfl, by assumption⟩
  · split at h
    · cases h
    · cases h; exact ⟨.inl rfl, by simp only; omega⟩
theorem getD_memP {l : List Pt} {i : Nat} (h : i < l.length) : l.getD i p0 ∈ l := by
  rw [List.getD_eq_getElem?_getD, List.getElem?_eq_getElem h]; exact List.getElem_mem _
theorem atP_memP {l : List Pt} {i : Nat} (h : 0 < l.length) : atP l i ∈ l := getD_memP (Nat.mod_lt _ h)
theorem slabL_mem {l : List Pt} {e : Pt × Pt} (h : e ∈ slabL l) : e.1 ∈ l ∧ e.2 ∈ l ∧ e.1.y < e.2.y := by
  obtain ⟨i, hi, he⟩ := List.mem_filterMap.1 h
  have hi := List.mem_range.1 hi
  obtain ⟨h1, h2⟩ := edgeP_some he
  rcases h1 with rfl | rfl
  · exact ⟨getD_memP hi, atP_memP (by omega), h2⟩
  · exact ⟨atP_memP (by omega), getD_memP hi, h2⟩
theorem edges_on (R : List (List Pt)) : EdgesOn (edgesP R) (heightsP R) := fun e he => by
  obtain ⟨l, hl, he⟩ := List.mem_flatMap.1 he
  obtain ⟨h1, h2, h3⟩ := slabL_mem he
  exact ⟨(heights_mem R _).2 (List.mem_map_of_mem (List.mem_flatten.2 ⟨l, hl, h1⟩)), (heights_mem R _).2 (List.mem_map_of_mem (List.mem_flatten.2 ⟨l, hl, h2⟩)), h3⟩
/-- THE LAW OF SLABS: the slab's edges that count are all that do. -/
theorem cross_slab (R : List (List Pt)) (p : Pt) : crossS (edgesP R) (heightsP R) p = crossR p R := by
  rw [crossS_eq (heights_sorted R) (edges_on R), edgesP_count]
theorem inR_cross (p : Pt) : ∀ R : List (List Pt), inR p R = oddB (crossR p R)
  | [] => rfl
  | l :: R => by
    rw [inR, inR_cross p R, inP_count]
    unfold crossR
    rw [List.map_cons, List.sum_cons, oddB_add]
theorem kH_search {H : List Int} (hs : H.Pairwise (· < ·)) (y : Int) : kH H y = H.countP (fun h => decide (h < y)) + (if H.contains y = true then 1 else 0) := by
  induction H with
  | nil => rfl
  | cons a H ih =>
    rw [List.pairwise_cons] at hs
    have ih := ih hs.2
    unfold kH at ih ⊢
    rw [List.countP_cons, List.countP_cons, ih, List.contains_cons]
    rcases Int.lt_trichotomy a y with h | h | h
    · have h1 : (y == a) = false := by simp; omega
      rw [h1, Bool.false_or]
      have h2 : decide (a ≤ y) = true := by simp; omega
      have h3 : decide (a < y) = true := by simp; omega
      rw [h2, h3]
      simp only [if_true]
      omega
    · subst h
      have h1 : H.contains a = false := by
        cases e : H.contains a with
        | false => rfl
        | true => have := hs.1 a (by simpa using e); omega
      rw [h1]
      simp
    · have h1 : (y == a) = false := by simp; omega
      rw [h1, Bool.false_or]
      have h2 : decide (a ≤ y) = false := by simp; omega
      have h3 : decide (a < y) = false := by simp; omega
      rw [h2, h3]
      simp
/-- as crossS, of the slabs' edges as they stand. -/
def crossE (H : List Int) (Es : List (List (Pt × Pt))) (p : Pt) : Nat :=
  if validP p = false ∨ kH H p.y = 0 ∨ kH H p.y = H.length then 0 else (Es.getD (kH H p.y - 1) []).countP (fun e => decide (turnP e.1 e.2 p = 1))
end Go.Geo

/- edges in slices: rows of the call's own, append -/
set_option linter.unusedSimpArgs false
set_option linter.unusedVariables false
namespace Go.Proofs.YtjiiikeniocmfaaGreat
open Go.RowKit Go.Geo
abbrev Edg := Pt × Pt
def edgC (e : Edg) : List Value := [.int .i64 e.1.x, .int .i64 e.1.y, .int .i64 e.2.x, .int .i64 e.2.y]
def ed0 : Edg := (p0, p0)
theorem Tryz.infoEdg : (Tryz.prog.info? 139).map (fun i => (i.zero, i.size, i.bytes)) = some (some (.agg #[.int .i64 0, .int .i64 0, .int .i64 0, .int .i64 0]), 4, 32) := by kernel_rfl
def flatE (E : List Edg) : List Value := E.flatMap edgC
theorem flatE_cons (e : Edg) (E : List Edg) : flatE (e :: E) = edgC e ++ flatE E := rfl
theorem flatE_append (E F : List Edg) : flatE (E ++ F) = flatE E ++ flatE F := by simp [flatE]
theorem flatE_length (E : List Edg) : (flatE E).length = E.length * 4 := by
  induction E with
  | nil => rfl
  | cons e m ih => rw [flatE_cons, List.length_append, ih]; simp [edgC]; omega
theorem flatE_get (E : List Edg) (i : Nat) (hi : i < E.length) : (flatE E)[i * 4]? = some (.int .i64 (E.getD i ed0).1.x) ∧ (flatE E)[i * 4 + 1]? = some (.int .i64 (E.getD i ed0).1.y) ∧ (flatE E)[i * 4 + 2]? = some (.int .i64 (E.getD i ed0).2.x) ∧ (flatE E)[i * 4 + 3]? = some (.int .i64 (E.getD i ed0).2.y) := by
  induction E generalizing i with
  | nil => simp at hi
  | cons e m ih =>
    cases i with
    | zero => exact ⟨rfl, rfl, rfl, rfl⟩
    | succ i =>
      have h := ih i (by simpa using hi)
      have e1 : ∀ k, (flatE (e :: m))[(i + 1) * 4 + k]? = (flatE m)[i * 4 + k]? := fun k => by
        rw [flatE_cons, List.getElem?_append_right (by simp [edgC]; omega)]
        congr 1
        simp [edgC]; omega
      have e2 := e1 0
      rw [Nat.add_zero, Nat.add_zero] at e2
      rw [e2, e1 1, e1 2, e1 3]
      exact h
theorem flatE_one (E : List Edg) : ∀ u ∈ flatE E, u.oneCell' = true := by
  intro u hu
  obtain ⟨e, _, h⟩ := List.mem_flatMap.1 hu
  simp only [edgC, List.mem_cons, List.not_mem_nil, or_false] at h
  rcases h with rfl | rfl | rfl | rfl <;> rfl
/-- edges in a slice. -/
def IsEdgs (w : World) (ao : Option Addr) (n cap : Nat) (E : List Edg) : Prop :=
  E.length = n ∧ n ≤ cap ∧ cap ≤ maxLen ∧ (ao = none → n = 0 ∧ cap = 0) ∧ (0 < n → ∃ b off, ao = some ⟨b, off, none⟩ ∧ ∀ i, i < n → w.cell? ⟨b, off + i * 4, none⟩ = some (.int .i64 (E.getD i ed0).1.x) ∧ w.cell? ⟨b, off + i * 4 + 1, none⟩ = some (.int .i64 (E.getD i ed0).1.y) ∧ w.cell? ⟨b, off + i * 4 + 2, none⟩ = some (.int .i64 (E.getD i ed0).2.x) ∧ w.cell? ⟨b, off + i * 4 + 3, none⟩ = some (.int .i64 (E.getD i ed0).2.y))
theorem IsEdgs.later {w w' : World} {B : Nat} {ao : Option Addr} {n cap : Nat} {E : List Edg} (h : IsEdgs w ao n cap E) (hb : Below B w w') (hB : w.heap.size ≤ B) : IsEdgs w' ao n cap E := by
  obtain ⟨h1, h2, h3, h4, h5⟩ := h
  refine ⟨h1, h2, h3, h4, fun hn => ?_⟩
  obtain ⟨b, off, e, hc⟩ := h5 hn
  refine ⟨b, off, e, fun i hi => ?_⟩
  obtain ⟨c0, c1, c2, c3⟩ := hc i hi
  have hlt := block_lt_of_cell c0
  have k : ∀ o, w'.cell? ⟨b, o, none⟩ = w.cell? ⟨b, o, none⟩ := fun o => hb.cell (p := ⟨b, o, none⟩) (Nat.lt_of_lt_of_le hlt hB)
  exact ⟨(k _).trans c0, (k _).trans c1, (k _).trans c2, (k _).trans c3⟩
def OwnE (w : World) (base : Nat) (v : Value) (E : List Edg) : Prop := w.ownsRow base 139 4 v E.length (flatE E)
theorem OwnE.nil (w : World) (base : Nat) : OwnE w base (.slice none 0 0) [] := World.ownsRow_nil _ _ _ _
theorem OwnE.later {w w' : World} {base : Nat} {v : Value} {E : List Edg} (h : OwnE w base v E) (hb : Below w.heap.size w w') : OwnE w' base v E := ownsRow_move h fun g hg => hb.block g (h.lt g hg).2
theorem OwnE.base {w : World} {base base' : Nat} {v : Value} {E : List Edg} (h : OwnE w base v E) (hb : base' ≤ base) : OwnE w base' v E := ownsRow_base h hb
theorem OwnE.edgs {w : World} {base : Nat} {v : Value} {E : List Edg} (h : OwnE w base v E) : ∃ ao cap, v = .slice ao E.length cap ∧ IsEdgs w ao E.length cap E := by
  rcases h.2 with ⟨rfl, h0⟩ | ⟨g, cap, cur, rfl, hb, hg, hn, hm, hs, ht⟩
  · have : E = [] := List.eq_nil_of_length_eq_zero h0
    subst this
    exact ⟨none, 0, rfl, rfl, Nat.le_refl _, by unfold maxLen; omega, fun _ => ⟨rfl, rfl⟩, fun h => absurd h (by simp)⟩
  · refine ⟨_, cap, rfl, rfl, hn, hm, (fun h => by cases h), fun _ => ⟨g, 0, rfl, fun i hi => ?_⟩⟩
    obtain ⟨c0, c1, c2, c3⟩ := flatE_get E i hi
    have hc := fun (k : Nat) (u : Value) (hu : (flatE E)[k]? = some u) => h.cells (g := g) rfl k u hu
    have ha : ∀ k, (⟨g, 0, none⟩ : Addr).add k = ⟨g, 0 + k, none⟩ := add_cell g
    have r := fun k u hu => (by have := hc k u hu; rw [ha, Nat.zero_add] at this; exact this : w.cell? ⟨g, k, none⟩ = some u)
    rw [Nat.zero_add]
    exact ⟨r _ _ c0, r _ _ c1, r _ _ c2, r _ _ c3⟩
theorem IsEdgs.cells {w : World} {b off : Nat} {spot : Option Nat} {n cap : Nat} {E : List Edg} (h : IsEdgs w (some ⟨b, off, spot⟩) n cap E) :
    ∀ j u, (flatE E)[j]? = some u → w.cell? ((⟨b, off, spot⟩ : Addr).add j) = some u := by
  intro j u hu
  have hj : j < E.length * 4 := by
    have := (List.getElem?_eq_some_iff.1 hu).1; rwa [flatE_length] at this
  obtain ⟨b', off', e2, hc⟩ := h.2.2.2.2 (by rw [← h.1]; omega)
  cases e2
  have hq : j / 4 < E.length := by omega
  obtain ⟨d0, d1, d2, d3⟩ := hc (j / 4) (by rw [← h.1]; exact hq)
  obtain ⟨f0, f1, f2, f3⟩ := flatE_get E (j / 4) hq
  have ha : (⟨b, off, none⟩ : Addr).add j = ⟨b, off + j, none⟩ := by unfold Addr.add; split <;> simp_all
  rw [ha]
  have hm : j % 4 = 0 ∨ j % 4 = 1 ∨ j % 4 = 2 ∨ j % 4 = 3 := by omega
  rcases hm with hm | hm | hm | hm
  · have e : j = j / 4 * 4 := by omega
    rw [e] at hu ⊢; rw [f0] at hu; cases hu; exact d0
  · have e : j = j / 4 * 4 + 1 := by omega
    rw [e] at hu ⊢; rw [f1] at hu; cases hu; exact d1
  · have e : j = j / 4 * 4 + 2 := by omega
    rw [e] at hu ⊢; rw [f2] at hu; cases hu; exact d2
  · have e : j = j / 4 * 4 + 3 := by omega
    rw [e] at hu ⊢; rw [f3] at hu; cases hu; exact d3
theorem run_append_edgF {w : World} (ty base : Nat) (v : Value) (L : List Edg) (hown : OwnE w base v L)
    (ao : Option Addr) (m c : Nat) (L2 : List Edg) (hsrc : IsEdgs w ao m c L2) (hnm : L.length + m ≤ 1000000000) (hbase : base ≤ w.heap.size) :
    ∃ v' w', (Builtin.append_ #[132, 132] ty #[v, .slice ao m c]).run Tryz.prog w = .ok v' w' ∧ OwnE w' base v' (L ++ L2) ∧ w.grownBy w' v.ownBlock ∧ (∀ g, v'.ownBlock = some g → w.heap.size ≤ g ∨ v.ownBlock = some g) := by
  obtain ⟨i0, hi, hz0, hz1, hz2⟩ := info_parts' Tryz.infoEdg
  have hl := hsrc.1
  cases ao with
  | none =>
    obtain ⟨rfl, rfl⟩ := hsrc.2.2.2.1 rfl
    obtain rfl : L2 = [] := List.eq_nil_of_length_eq_zero hl
    exact ⟨v, w, run_append_owned_none (P := Tryz.prog) (w := w) base _ ty _ i0 4 Tryz.underlying132 hi v _ _ hown, by rw [List.append_nil]; exact hown, ⟨rfl, rfl, rfl, Nat.le_refl _, fun _ _ _ => rfl⟩, fun g hg => .inr hg⟩
  | some ad =>
    obtain ⟨b, off, spot⟩ := ad
    obtain ⟨v', w', hr, h2, h3, _⟩ := run_append_own (P := Tryz.prog) w base 132 ty _ i0 (.agg #[.int .i64 0, .int .i64 0, .int .i64 0, .int .i64 0]) 4 32 Tryz.underlying132 hi hz0 hz1 hz2 rfl (by decide) v _ _ hown ⟨b, off, spot⟩ m c (flatE L2) (by rw [flatE_length, hl]) hsrc.cells (flatE_one _)
      (by unfold maxLen; omega) (by omega) hbase
    refine ⟨v', w', hr, ?_, h3, append_own_fresh (P := Tryz.prog) w base 132 ty _ i0 (.agg #[.int .i64 0, .int .i64 0, .int .i64 0, .int .i64 0]) 4 32 Tryz.underlying132 hi hz0 hz1 hz2 rfl (by decide) v _ _ hown ⟨b, off, spot⟩ m c (flatE L2) (by rw [flatE_length, hl]) hsrc.cells (flatE_one _)
      (by unfold maxLen; omega) (by omega) hr⟩
    unfold OwnE
    rw [flatE_append, List.length_append, hl]; exact h2
theorem opwp_append_edgF {w : World} {o : Oper} {a : Act} {K : Act → World → Prop} {Q : Exit → Act → World → Prop} (s x : Operand)
    (ho : o.op = .call { callee := .builtin .append, args := #[s, x], argTypes := #[132, 132] })
    (base : Nat) (v : Value) (L : List Edg) (hs : a.eval s = v) (hown : OwnE w base v L)
    (ao : Option Addr) (m c : Nat) (L2 : List Edg) (hx : a.eval x = .slice ao m c) (hsrc : IsEdgs w ao m c L2) (hnm : L.length + m ≤ 1000000000) (hbase : base ≤ w.heap.size)
    (h : ∀ v' w', OwnE w' base v' (L ++ L2) → w.grownBy w' v.ownBlock → (∀ g, v'.ownBlock = some g → w.heap.size ≤ g ∨ v.ownBlock = some g) → K (a.put o.dst v') w') : o.wp Tryz.prog a w K Q := by
  obtain ⟨v', w', hr, h2, h3, h4⟩ := run_append_edgF o.type base v L hown ao m c L2 hsrc hnm hbase
  unfold Oper.wp execOp
  simp only [ho, resolve, invoke, builtin, Sem.run_bind, Sem.run_pure, Result.andThen_ok, List.map_toArray, List.map_cons, List.map_nil, hs, hx, hr]
  exact h v' w' h2 h3 h4
theorem wpList_append_edgs {w : World} {ops : Array Oper} {rest : List Oper} {o : Oper} {a : Act} {Q : Exit → Act → World → Prop} (hgd : o.guard = none) (s x : Operand)
    (ho : o.op = .call { callee := .builtin .append, args := #[s, x], argTypes := #[132, 132] })
    (base : Nat) (v : Value) (L : List Edg) (hs : a.eval s = v) (hown : OwnE w base v L)
    (ao : Option Addr) (m c : Nat) (L2 : List Edg) (hx : a.eval x = .slice ao m c) (hsrc : IsEdgs w ao m c L2) (hnm : L.length + m ≤ 1000000000) (hbase : base ≤ w.heap.size)
    (h : ∀ v' w', OwnE w' base v' (L ++ L2) → w.grownBy w' v.ownBlock → wpList Tryz.prog ops Q rest (a.put o.dst v') w') : wpList Tryz.prog ops Q (o :: rest) a w := by
  obtain ⟨v', w', hr, h2, h3, _⟩ := run_append_edgF o.type base v L hown ao m c L2 hsrc hnm hbase
  refine wpList_plain hgd fun K hK => ?_
  unfold Oper.wp execOp
  simp only [ho, resolve, invoke, builtin, Sem.run_bind, Sem.run_pure, Result.andThen_ok, List.map_toArray, List.map_cons, List.map_nil, hs, hx, hr]
  exact hK _ _ (h v' w' h2 h3)
theorem one_edg (w : World) (e : Edg) : IsEdgs (w.alloc (Obj.cells #[.int .i64 e.1.x, .int .i64 e.1.y, .int .i64 e.2.x, .int .i64 e.2.y] 139)) (some ⟨w.heap.size, 0, none⟩) 1 1 [e] := by
  refine ⟨rfl, Nat.le_refl _, by unfold maxLen; omega, (fun h => by cases h), fun _ => ⟨_, _, rfl, fun i hi => ?_⟩⟩
  obtain rfl : i = 0 := by omega
  have k := alloc_new w (Obj.cells #[.int .i64 e.1.x, .int .i64 e.1.y, .int .i64 e.2.x, .int .i64 e.2.y] 139)
  exact ⟨cell_of_row _ _ _ _ _ _ k, cell_of_row _ _ _ _ _ _ k, cell_of_row _ _ _ _ _ _ k, cell_of_row _ _ _ _ _ _ k⟩
theorem one_edgB (w : World) (e : Edg) {B : Nat} (hB : B = w.heap.size) : IsEdgs (w.alloc (Obj.cells #[.int .i64 e.1.x, .int .i64 e.1.y, .int .i64 e.2.x, .int .i64 e.2.y] 139)) (some ⟨B, 0, none⟩) 1 1 [e] := by
  subst hB; exact one_edg w e
theorem IsEdgs.at {w : World} {ao : Option Addr} {n cap : Nat} {E : List Edg} (h : IsEdgs w ao n cap E) {i : Nat} (hi : i < n) : ∃ b off, ao = some ⟨b, off, none⟩ ∧ w.cell? ⟨b, off + i * 4, none⟩ = some (.int .i64 (E.getD i ed0).1.x) ∧ w.cell? ⟨b, off + i * 4 + 1, none⟩ = some (.int .i64 (E.getD i ed0).1.y) ∧ w.cell? ⟨b, off + i * 4 + 2, none⟩ = some (.int .i64 (E.getD i ed0).2.x) ∧ w.cell? ⟨b, off + i * 4 + 3, none⟩ = some (.int .i64 (E.getD i ed0).2.y) := by
  obtain ⟨b, off, e, hc⟩ := h.2.2.2.2 (by omega)
  exact ⟨b, off, e, hc i hi⟩
end Go.Proofs.YtjiiikeniocmfaaGreat

/- math/bits.Mul64, laid at this program (written by the shelf's tools; the numbers by their names) -/
namespace Go.Proofs.YtjiiikeniocmfaaGreat
open Go.Shelf Go.RowKit
def mul64_ren : Go.Shelf.Ren := ⟨fun | 264 => 176 | n => n, fun | 53 => 162 | 46 => 161 | n => n, fun | n => n⟩
theorem mul64_lays : Go.Proofs.Lays.n264 Tryz.prog mul64_ren := {
  mixed := by kernel_rfl
  f264 := Tryz.func176.trans (congrArg some (by kernel_rfl))
  t46 := Tryz.underlying161
  a46 := Tryz.isAgg161
  z46 := Tryz.sizeOf161
  v46 := Tryz.zeroValue161
  t53 := Tryz.underlying162
  a53 := Tryz.isAgg162
  z53 := Tryz.sizeOf162
  v53 := Tryz.zeroValue162 }
theorem Mul64_any (x y : Nat) (hx : x < 18446744073709551616) (hy : y < 18446744073709551616) (w : World) :
    Calls Tryz.prog 176 #[.int .u64 x, .int .u64 y] w fun e w' => e = .returned (.tuple #[.int .u64 ((x * y / 18446744073709551616 : Nat) : Int), .int .u64 ((x * y % 18446744073709551616 : Nat) : Int)]) ∧ w' = w := Go.Proofs.Any.bits_Mul64 mul64_lays x y hx hy w
end Go.Proofs.YtjiiikeniocmfaaGreat

/- wide: sizes, signs, the sign of a difference of two products -/
namespace Go.Proofs.YtjiiikeniocmfaaGreat
open Go.RowKit Go.Geo
theorem cmpInt_any (a b : Int) (w : World) :
    Calls Tryz.prog 79 #[.int .i64 a, .int .i64 b] w fun e w' => e = .returned (.int .i64 (cmpZ a b)) ∧ w = w' := by
  unfold cmpZ
  by_cases h1 : a < b
  · rw [if_pos h1]
    go_enter Tryz.func79, Tryz.ntmps79
    go_wp2
    go_ret
    exact ⟨rfl, rfl⟩
  · rw [if_neg h1]
    by_cases h2 : b < a
    · rw [if_pos h2]
      go_enter Tryz.func79, Tryz.ntmps79
      go_wp2
      go_ret
      exact ⟨rfl, rfl⟩
    · rw [if_neg h2]
      go_enter Tryz.func79, Tryz.ntmps79
      go_wp2
      go_ret
      exact ⟨rfl, rfl⟩
theorem cmpU_any (a b : Int) (w : World) :
    Calls Tryz.prog 109 #[.int .u64 a, .int .u64 b] w fun e w' => e = .returned (.int .i64 (cmpZ a b)) ∧ w = w' := by
  unfold cmpZ
  by_cases h1 : a < b
  · rw [if_pos h1]
    go_enter Tryz.func109, Tryz.ntmps109
    go_wp2
    go_ret
    exact ⟨rfl, rfl⟩
  · rw [if_neg h1]
    by_cases h2 : b < a
    · rw [if_pos h2]
      go_enter Tryz.func109, Tryz.ntmps109
      go_wp2
      go_ret
      exact ⟨rfl, rfl⟩
    · rw [if_neg h2]
      go_enter Tryz.func109, Tryz.ntmps109
      go_wp2
      go_ret
      exact ⟨rfl, rfl⟩
theorem or_any (g : Nat) (x y : Int) (w : World) (h0 : w.cell? ⟨g, 0, none⟩ = some (.int .i64 x)) (h1 : w.cell? ⟨g, 1, none⟩ = some (.int .i64 y)) :
    Calls Tryz.prog 77 #[.slice (some ⟨g, 0, none⟩) 2 2] w fun e w' => e = .returned (.int .i64 (if x = 0 then y else x)) ∧ w = w' := by
  by_cases hx : x = 0
  · rw [if_pos hx]
    subst hx
    by_cases hy : y = 0
    · subst hy
      go_enter Tryz.func77, Tryz.ntmps77
      go_wp2
      go_loop [8] (fun i => ∃ k : Nat, k ≤ 2 ∧ i = .int .i64 k) (fun i => 2 - (intOf i).toNat)
      case atStart => exact ⟨0, by omega, rfl⟩
      case round =>
        obtain ⟨k, hk, rfl⟩ := hrel
        have hc : k = 0 ∨ k = 1 ∨ k = 2 := by omega
        rcases hc with rfl | rfl | rfl
        · go_wp2
          go_round
          case rel => exact ⟨1, by omega, rfl⟩
          case measure => simp [intOf]
        · go_wp2
          go_round
          case rel => exact ⟨2, by omega, rfl⟩
          case measure => simp [intOf]
        · go_wp2
          go_ret
          exact ⟨rfl, rfl⟩
    · have hyb : (y == 0) = false := by simpa using hy
      have hyn : (y != 0) = true := by simpa using hy
      clear hy
      go_enter Tryz.func77, Tryz.ntmps77
      go_wp2
      go_loop [8] (fun i => ∃ k : Nat, k ≤ 1 ∧ i = .int .i64 k) (fun i => 2 - (intOf i).toNat)
      case atStart => exact ⟨0, by omega, rfl⟩
      case round =>
        obtain ⟨k, hk, rfl⟩ := hrel
        have hc : k = 0 ∨ k = 1 := by omega
        rcases hc with rfl | rfl
        · go_wp2
          go_round
          case rel => exact ⟨1, by omega, rfl⟩
          case measure => simp [intOf]
        · go_wp2
          go_ret
          exact ⟨rfl, rfl⟩
  · rw [if_neg hx]
    have hxb : (x == 0) = false := by simpa using hx
    have hxn : (x != 0) = true := by simpa using hx
    clear hx
    go_enter Tryz.func77, Tryz.ntmps77
    go_wp2
    go_loop [8] (fun i => ∃ k : Nat, k ≤ 0 ∧ i = .int .i64 k) (fun i => 2 - (intOf i).toNat)
    case atStart => exact ⟨0, by omega, rfl⟩
    case round =>
      obtain ⟨k, hk, rfl⟩ := hrel
      obtain rfl : k = 0 := by omega
      go_wp2
      go_ret
      exact ⟨rfl, rfl⟩
theorem usize_any (n : Int) (h1 : -4611686018427387904 ≤ n) (h2 : n ≤ 4611686018427387904) (w : World) :
    Calls Tryz.prog 177 #[.int .i64 n] w fun e w' => e = .returned (.int .u64 (n.natAbs : Nat)) ∧ w = w' := by
  by_cases h : n < 0
  · go_enter Tryz.func177, Tryz.ntmps177
    go_wp2
    go_ret
    refine ⟨?_, rfl⟩
    show Ending.returned (.int .u64 (IntKind.u64.wrap (-IntKind.u64.wrap n))) = _
    rw [IntKind.wrap_u64, IntKind.wrap_u64, show -(n % 18446744073709551616) % 18446744073709551616 = (n.natAbs : Int) by omega]
  · go_enter Tryz.func177, Tryz.ntmps177
    go_wp2
    go_ret
    refine ⟨?_, rfl⟩
    show Ending.returned (.int .u64 n) = _
    rw [show (n.natAbs : Int) = n by omega]
theorem wsign_any (n : Int) (w : World) :
    Calls Tryz.prog 178 #[.int .i64 n] w fun e w' => e = .returned (.int .i64 (sgn n)) ∧ w = w' := by
  have HC := Lib.hid (cmpInt_any n 0 w)
  rw [sgn_cmp] at HC
  go_enter Tryz.func178, Tryz.ntmps178
  go_wp2_with fail
  refine HC.out.mono ?_
  rintro e w' ⟨rfl, rfl⟩
  go_wp2_with fail
  go_ret
  exact ⟨rfl, rfl⟩
theorem sgn_prod (a b : Int) : sgn a * sgn b = -1 ∨ sgn a * sgn b = 0 ∨ sgn a * sgn b = 1 := by
  rcases sgn_range a with h | h | h <;> rcases sgn_range b with k | k | k <;> rw [h, k] <;> simp
theorem Mul_any (a b : Int) (ha1 : -4398046511104 ≤ a) (ha2 : a ≤ 4398046511104) (hb1 : -4398046511104 ≤ b) (hb2 : b ≤ 4398046511104) (w : World) :
    Calls Tryz.prog 155 #[.int .i64 a, .int .i64 b] w fun e w' => e = .returned (.tuple #[.int .u64 ((a.natAbs * b.natAbs / 18446744073709551616 : Nat) : Int), .int .u64 ((a.natAbs * b.natAbs % 18446744073709551616 : Nat) : Int), .int .i64 (sgn a * sgn b)]) ∧ w = w' := by
  have HA := Lib.hid (usize_any a (by omega) (by omega))
  have HB := Lib.hid (usize_any b (by omega) (by omega))
  have HM := Lib.hid (Mul64_any a.natAbs b.natAbs (by omega) (by omega))
  have HS := Lib.hid (wsign_any a)
  have HT := Lib.hid (wsign_any b)
  have hr := sgn_prod a b
  have ra := sgn_range a
  have rb := sgn_range b
  generalize a.natAbs * b.natAbs / 18446744073709551616 = x at *
  generalize a.natAbs * b.natAbs % 18446744073709551616 = y at *
  go_enter Tryz.func155, Tryz.ntmps155
  go_wp2_with (first
    | (go_at_call 177; refine (HA.out _).mono ?_; clear HA; rintro e w' ⟨rfl, rfl⟩)
    | (go_at_call 177; refine (HB.out _).mono ?_; rintro e w' ⟨rfl, rfl⟩)
    | (go_at_call 176; refine (HM.out _).mono ?_; rintro e w' ⟨rfl, rfl⟩)
    | (go_at_call 178; refine (HS.out _).mono ?_; clear HS; rintro e w' ⟨rfl, rfl⟩)
    | (go_at_call 178; refine (HT.out _).mono ?_; rintro e w' ⟨rfl, rfl⟩))
  go_ret3
  exact ⟨rfl, rfl⟩
theorem cmpZ_range (a b : Int) : cmpZ a b = -1 ∨ cmpZ a b = 0 ∨ cmpZ a b = 1 := by unfold cmpZ; split <;> (try split) <;> simp
set_option maxRecDepth 100000 in
theorem wSign_any (a b c d : Int) (ha1 : -4398046511104 ≤ a) (ha2 : a ≤ 4398046511104) (hb1 : -4398046511104 ≤ b) (hb2 : b ≤ 4398046511104) (hc1 : -4398046511104 ≤ c) (hc2 : c ≤ 4398046511104) (hd1 : -4398046511104 ≤ d) (hd2 : d ≤ 4398046511104) (w : World) :
    Calls Tryz.prog 119 #[.int .i64 a, .int .i64 b, .int .i64 c, .int .i64 d] w fun e w' => e = .returned (.int .i64 (sgn (a * b - c * d))) ∧ Grew w w' := by
  have HM := Lib.hid (Mul_any a b ha1 ha2 hb1 hb2)
  have HN := Lib.hid (Mul_any c d hc1 hc2 hd1 hd2)
  have hlaw := sign_law a b c d
  unfold signW at hlaw
  rw [← hlaw]
  have hs := sgn_prod a b
  have ht := sgn_prod c d
  clear hlaw ha1 ha2 hb1 hb2 hc1 hc2 hd1 hd2
  generalize sgn a * sgn b = s at *
  generalize sgn c * sgn d = t at *
  generalize a.natAbs * b.natAbs / 18446744073709551616 = x at *
  generalize a.natAbs * b.natAbs % 18446744073709551616 = y at *
  generalize c.natAbs * d.natAbs / 18446744073709551616 = z at *
  generalize c.natAbs * d.natAbs % 18446744073709551616 = u at *
  by_cases h : s = t
  · subst h
    have hsb : (s != s) = false := by simp
    rw [if_pos rfl]
    have HX := Lib.hid (cmpU_any (x : Int) (z : Int))
    have HY := Lib.hid (cmpU_any (y : Int) (u : Int))
    have r1 := cmpZ_range (x : Int) (z : Int)
    have r2 := cmpZ_range (y : Int) (u : Int)
    obtain ⟨p, hp⟩ : ∃ p, p = cmpZ (x : Int) (z : Int) := ⟨_, rfl⟩
    obtain ⟨q, hq⟩ : ∃ q, q = cmpZ (y : Int) (u : Int) := ⟨_, rfl⟩
    rw [← hp] at HX r1 ⊢
    rw [← hq] at HY r2 ⊢
    clear hp hq
    obtain ⟨r, hr⟩ : ∃ r, r = (if p = 0 then q else p) := ⟨_, rfl⟩
    have hrr : r = -1 ∨ r = 0 ∨ r = 1 := by rw [hr]; split <;> assumption
    have HO : Hid (∀ (g : Nat) (w : World), w.cell? ⟨g, 0, none⟩ = some (.int .i64 p) → w.cell? ⟨g, 1, none⟩ = some (.int .i64 q) → Calls Tryz.prog 77 #[.slice (some ⟨g, 0, none⟩) 2 2] w fun e w' => e = .returned (.int .i64 r) ∧ w = w') := Lib.hid (fun g w h1 h2 => by rw [hr]; exact or_any g p q w h1 h2)
    rw [← hr]
    clear hr
    go_enter Tryz.func119, Tryz.ntmps119
    go_wp2_with fail
    refine (HM.out _).mono ?_
    rintro e w' ⟨rfl, rfl⟩
    go_wp2_with fail
    refine (HN.out _).mono ?_
    rintro e w' ⟨rfl, rfl⟩
    go_wp2_with fail
    refine (HX.out _).mono ?_
    rintro e w' ⟨rfl, rfl⟩
    go_wp2_with fail
    refine (HY.out _).mono ?_
    rintro e w' ⟨rfl, rfl⟩
    go_wp2_with fail
    refine (HO.out _ _ (cell_of_row _ _ _ _ _ _ (alloc_new _ _)) (cell_of_row _ _ _ _ _ _ (alloc_new _ _))).mono ?_
    rintro e w' ⟨rfl, rfl⟩
    go_wp2_with fail
    have hbb : -1 ≤ s * r ∧ s * r ≤ 1 := by clear HM HN HO HX HY; rcases hs with rfl | rfl | rfl <;> rcases hrr with rfl | rfl | rfl <;> simp
    have hw : wrap64 (s * r) = s * r := by unfold wrap64; omega
    go_ret
    refine ⟨?_, (Grew.refl _).alloc _⟩
    show Ending.returned (.int .i64 (wrap64 (s * r))) = _
    rw [hw]
  · have hsb : (s != t) = true := by simpa using h
    rw [if_neg h]
    have HX := Lib.hid (cmpInt_any s t)
    have r1 := cmpZ_range s t
    generalize cmpZ s t = p at *
    go_enter Tryz.func119, Tryz.ntmps119
    go_wp2_with fail
    refine (HM.out _).mono ?_
    rintro e w' ⟨rfl, rfl⟩
    go_wp2_with fail
    refine (HN.out _).mono ?_
    rintro e w' ⟨rfl, rfl⟩
    go_wp2_with fail
    refine (HX.out _).mono ?_
    rintro e w' ⟨rfl, rfl⟩
    go_wp2_with fail
    go_ret
    exact ⟨rfl, Grew.refl _⟩
end Go.Proofs.YtjiiikeniocmfaaGreat

/- point: Valid, Compare, Turn, On, In, Meet -/
namespace Go.Proofs.YtjiiikeniocmfaaGreat
open Go.RowKit Go.Geo
def ptV (p : Pt) : Value := .agg #[.int .i64 p.x, .int .i64 p.y]
theorem fits_any (n : Int) (w : World) :
    Calls Tryz.prog 116 #[.int .i64 n] w fun e w' => e = .returned (.bool (fitsC n)) ∧ w = w' := by
  unfold fitsC
  by_cases h1 : -1099511627775 ≤ n
  · by_cases h2 : n ≤ 1099511627775
    · go_enter Tryz.func116, Tryz.ntmps116
      go_wp2
      go_ret
      exact ⟨by simp [h1, h2], rfl⟩
    · go_enter Tryz.func116, Tryz.ntmps116
      go_wp2
      go_ret
      exact ⟨by simp; omega, rfl⟩
  · go_enter Tryz.func116, Tryz.ntmps116
    go_wp2
    go_ret
    exact ⟨by simp; omega, rfl⟩
theorem Valid_any (p : Pt) (w : World) :
    Calls Tryz.prog 85 #[ptV p] w fun e w' => e = .returned (.bool (validP p)) ∧ Grew w w' := by
  obtain ⟨x, y⟩ := p
  unfold validP ptV
  dsimp only
  have HX := Lib.hid (fits_any x)
  have HY := Lib.hid (fits_any y)
  generalize fitsC x = b at *
  generalize fitsC y = c at *
  cases b
  · go_enter Tryz.func85, Tryz.ntmps85
    go_wp2_with fail
    refine (HX.out _).mono ?_
    rintro e w' ⟨rfl, rfl⟩
    go_wp2_with fail
    go_ret
    exact ⟨rfl, (Grew.refl _).alloc _⟩
  · go_enter Tryz.func85, Tryz.ntmps85
    go_wp2_with fail
    refine (HX.out _).mono ?_
    rintro e w' ⟨rfl, rfl⟩
    go_wp2_with fail
    refine (HY.out _).mono ?_
    rintro e w' ⟨rfl, rfl⟩
    go_wp2_with fail
    go_ret
    exact ⟨rfl, (Grew.refl _).alloc _⟩
end Go.Proofs.YtjiiikeniocmfaaGreat
