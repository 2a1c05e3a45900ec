/- rows of the call's own, of whose block every cell is known to be of a kind: what a loop over all of the capacity asks -/
import Derived.Test.YtmpjjkfbojhfoaaMem
import Derived.Laws.AppendOwnNone
namespace Go.Proofs.Ytmpjjkfbojhfoaa
open Go.RowKit
/-- may this be a cell of what is neither bytes nor deeds? -/
def plainV : Value → Bool
  | .int .u8 _ => false
  | .iface _ _ => false
  | _ => true
/-- every cell of v's block is ok. -/
def AllCells (w : World) (v : Value) (ok : Value → Prop) : Prop := ∀ g c t f, v.ownBlock = some g → w.heap[g]? = some (.cells c t f) → ∀ u, u ∈ c → ok u
theorem AllCells.move {w w' : World} {v : Value} {ok : Value → Prop} (h : AllCells w v ok) (hb : ∀ g, v.ownBlock = some g → w'.heap[g]? = w.heap[g]?) : AllCells w' v ok :=
  fun g c t f hg hc => h g c t f hg (by rw [← hb g hg]; exact hc)
theorem ownsRow_move {w w' : World} {base e s n : Nat} {v : Value} {xs : List Value} (h : w.ownsRow base e s v n xs) (hb : ∀ g, v.ownBlock = some g → w'.heap[g]? = w.heap[g]?) : w'.ownsRow base e s v n xs := by
  refine ⟨h.1, ?_⟩
  rcases h.2 with hn | ⟨g, cap, cur, rfl, hbg, hgg, rest⟩
  · exact .inl hn
  · exact .inr ⟨g, cap, cur, rfl, hbg, by rw [hb g rfl]; exact hgg, rest⟩
theorem ownsRow_base {w : World} {base base' e s n : Nat} {v : Value} {xs : List Value} (h : w.ownsRow base e s v n xs) (hb : base' ≤ base) : w.ownsRow base' e s v n xs := by
  refine ⟨h.1, ?_⟩
  rcases h.2 with hn | ⟨g, cap, cur, rfl, hbg, rest⟩
  · exact .inl hn
  · exact .inr ⟨g, cap, cur, rfl, by omega, rest⟩
theorem ownsRow_shape {w : World} {base e s n : Nat} {v : Value} {xs : List Value} (h : w.ownsRow base e s v n xs) : ∃ ao cap, v = .slice ao n cap := by
  rcases h.2 with ⟨rfl, rfl⟩ | ⟨g, cap, cur, rfl, _⟩
  · exact ⟨_, _, rfl⟩
  · exact ⟨_, _, rfl⟩
/-- a block with cells of another type is not v's. -/
theorem box_ne {W : World} {c : Array Value} {t b e s n base : Nat} {f : Nat × Nat} {u : Value} {xs : List Value} (hb : W.heap[b]? = some (.cells c t f)) (hu : W.ownsRow base e s u n xs) (ht : t ≠ e) : some b ≠ u.ownBlock := by
  rcases hu.2 with ⟨rfl, _⟩ | ⟨g, cap, cur, rfl, _, hg, _⟩
  · simp [Value.ownBlock]
  · simp only [Value.ownBlock]
    intro h
    injection h with h
    subst h
    rw [hb] at hg
    injection hg with hg
    injection hg with _ h2
    exact ht h2
theorem ownBlock_ne {w : World} {base b2 e e' s s' : Nat} {v u : Value} {n m : Nat} {xs ys : List Value} (he : e ≠ e') (hv : w.ownsRow base e s v n xs) (hu : w.ownsRow b2 e' s' u m ys) :
    ∀ g, u.ownBlock = some g → some g ≠ v.ownBlock := by
  intro g hg
  rcases hu.2 with ⟨rfl, _⟩ | ⟨g', cap, cur, rfl, _, hg', _⟩
  · simp [Value.ownBlock] at hg
  · simp only [Value.ownBlock, Option.some.injEq] at hg
    subst hg
    exact box_ne hg' hv (Ne.symm he)
/-- an own row's block is not one that holds no cells. -/
theorem obj_ne {W : World} {o : Obj} {b e s n base : Nat} {u : Value} {xs : List Value} (hb : W.heap[b]? = some o) (ho : ∀ c t f, o ≠ .cells c t f) (hu : W.ownsRow base e s u n xs) : some b ≠ u.ownBlock := by
  rcases hu.2 with ⟨rfl, _⟩ | ⟨g, cap, cur, rfl, _, hg, _⟩
  · simp [Value.ownBlock]
  · simp only [Value.ownBlock]
    intro h
    injection h with h
    subst h
    rw [hb] at hg
    injection hg with hg
    exact ho _ _ _ hg
theorem mem_zeroCells {z : Array Value} {k : Nat} {u : Value} (h : u ∈ Builtin.zeroCells z k) : u ∈ z := by
  unfold Builtin.zeroCells at h
  rw [Array.mem_map] at h
  obtain ⟨i, hi, rfl⟩ := h
  rw [Array.mem_range] at hi
  have hz : 0 < z.size := by
    rcases Nat.eq_zero_or_pos z.size with h0 | h0
    · rw [h0] at hi; simp at hi
    · exact h0
  have hlt : i % z.size < z.size := Nat.mod_lt _ hz
  rw [getElem!_pos z (i % z.size) hlt]
  exact Array.getElem_mem hlt
section
variable {P : Program} (w : World)
theorem run_append_all (base : Nat) (t ty e : TypeId) (i : TypeInfo) (z : Value) (size bytes : Nat) (ht : P.underlying t = some (.slice e)) (hi : P.info? e = some i) (hz : i.zero = some z)
    (hsize : i.size = size) (hby : i.bytes = bytes) (hzs : z.cells.size = size) (hsz : 0 < size)
    (v : Value) (n : Nat) (xs : List Value) (hown : w.ownsRow base e size v n xs)
    (a : Addr) (m c : Nat) (news : List Value) (hl : news.length = m * size) (hnews : ∀ j u, news[j]? = some u → w.cell? (a.add j) = some u) (h1 : ∀ u ∈ news, u.oneCell' = true)
    (h63 : n + m ≤ maxLen) (hbytes : (n + m) * bytes ≤ 140737488355328) (hbase : base ≤ w.heap.size)
    (ok : Value → Prop) (hzok : ∀ u, u ∈ z.cells → ok u) (hnok : ∀ u, u ∈ news → ok u) (hold : AllCells w v ok) :
    ∃ v' w', (Builtin.append_ #[t, t] ty #[v, .slice (some a) m c]).run P w = .ok v' w' ∧ w'.ownsRow base e size v' (n + m) (xs ++ news) ∧ w.grownBy w' v.ownBlock ∧ AllCells w' v' ok ∧ (v' = .slice none 0 0 ↔ v = .slice none 0 0 ∧ m = 0) ∧
      (∀ g, v'.ownBlock = some g → v.ownBlock = some g ∨ g = w.heap.size) := by
  obtain ⟨v', w', hr, h2, h3, h4⟩ := run_append_own (P := P) w base t ty e i z size bytes ht hi hz hsize hby hzs hsz v n xs hown a m c news hl hnews h1 h63 hbytes hbase
  refine ⟨v', w', hr, h2, h3, ?_, h4, ?_⟩
  all_goals
    subst hsize
    subst hby
    rcases hown.2 with ⟨rfl, rfl⟩ | ⟨g, cap, cur, rfl, hbg, hg, hnc, hcm, hcs, htake⟩
    · have hx : xs = [] := List.eq_nil_of_length_eq_zero (by simpa using hown.1)
      subst hx
      by_cases hm : m = 0
      · have := h4.2 ⟨rfl, hm⟩
        subst this
        first | (intro g c t f hg; simp [Value.ownBlock] at hg; done) | (intro g hg; simp [Value.ownBlock] at hg; done)
      · have hr2 := run_append_nil (P := P) w t ty e i z ht hi hz a m c news hl hnews (by omega) (by unfold maxLen at h63; omega) (by have hb := hbytes; simp only [Nat.zero_add] at hb; omega)
        rw [hr2] at hr
        injection hr with e1 e2
        subst e1 e2
        first
        | (intro g c t f hg hc u hu
           simp only [Value.ownBlock, Option.some.injEq] at hg
           subst hg
           have := heap_alloc_new w.drew (.cells (news.toArray ++ Builtin.zeroCells z.cells (grownCap w m 0 e - m)) e)
           rw [show w.drew.heap.size = w.heap.size from rfl] at this
           rw [this] at hc
           cases hc
           rcases Array.mem_append.1 hu with h | h
           · exact hnok u (by simpa using h)
           · exact hzok u (mem_zeroCells h))
        | (intro g hg; right; simpa [Value.ownBlock] using hg.symm)
    · by_cases hroom : n + m ≤ cap
      · have hfit : n * i.size + news.length ≤ cur.size := by rw [hl, hcs, ← Nat.add_mul]; exact Nat.mul_le_mul_right _ hroom
        have hr2 := run_append_room (P := P) w t ty e i ht hi g n cap cur hg a m c news hl hnews h1 hroom hfit
        rw [hr2] at hr
        injection hr with e1 e2
        subst e1 e2
        first
        | (intro g' c' t' f' hg' hc' u hu
           simp only [Value.ownBlock, Option.some.injEq] at hg'
           subst hg'
           rw [setRow_heap w g cur _ e _ hg] at hc'
           cases hc'
           have hu' : u ∈ cur.toList.take (n * i.size) ++ news ++ cur.toList.drop (n * i.size + news.length) := by simpa using hu
           rcases List.mem_append.1 hu' with h | h
           · rcases List.mem_append.1 h with h | h
             · exact hold g cur e (0, 0) rfl hg u (by simpa using List.mem_of_mem_take h)
             · exact hnok u h
           · exact hold g cur e (0, 0) rfl hg u (by simpa using List.mem_of_mem_drop h))
        | (intro g' hg'; left; exact hg')
      · have holds : ∀ j u, xs[j]? = some u → w.cell? ((⟨g, 0, none⟩ : Addr).add j) = some u := hown.cells (g := g) rfl
        have hr2 := run_append_grow (P := P) w t ty e i z ht hi hz ⟨g, 0, none⟩ n cap xs hown.1 holds a m c news hl hnews (by omega) (by unfold maxLen at h63; omega) (growslice_fits (by omega) hbytes)
        rw [hr2] at hr
        injection hr with e1 e2
        subst e1 e2
        first
        | (intro g' c' t' f' hg' hc' u hu
           simp only [Value.ownBlock, Option.some.injEq] at hg'
           subst hg'
           have := heap_alloc_new w.drew (.cells (xs.toArray ++ news.toArray ++ Builtin.zeroCells z.cells (grownCap w (n + m) cap e - (n + m))) e)
           rw [show w.drew.heap.size = w.heap.size from rfl] at this
           rw [this] at hc'
           cases hc'
           rcases Array.mem_append.1 hu with h | h
           · rcases Array.mem_append.1 h with h | h
             · have h' : u ∈ xs := by simpa using h
               rw [← htake] at h'
               exact hold g cur e (0, 0) rfl hg u (by simpa using List.mem_of_mem_take h')
             · exact hnok u (by simpa using h)
           · exact hzok u (mem_zeroCells h))
        | (intro g' hg'; right; simpa [Value.ownBlock] using hg'.symm)
end
end Go.Proofs.Ytmpjjkfbojhfoaa
