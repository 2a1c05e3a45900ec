/- what is kept: a row of records of one's own, whose bytes lie in old memory or in rows of bytes -/
import Derived.Test.YtdglaacjefcfdaaLLives
import Derived.Test.YtdglaacjefcfdaaLFuse
import Derived.Test.YtdglaacjefcfdaaCrash
import Derived.Laws.OwnMore
import Derived.Laws.AppendOwnNone
namespace Go.Proofs.Ytdglaacjefcfdaa
open Go.RowKit
/-- bytes that lie below base, or in a row of bytes. -/
def Elem (w : World) (base : Nat) (u : Value) (l : List UInt8) : Prop :=
  ∃ ao n cap, u = .slice ao n cap ∧ IsBytes w ao n cap l ∧ ∀ a, ao = some a → l ≠ [] → a.block < base ∨ ∃ c fr, w.heap[a.block]? = some (.cells c 5 fr)
theorem Elem.of_own {w : World} {b base : Nat} {u : Value} {l : List UInt8} (h : OwnB w b u l) : Elem w base u l := by
  obtain ⟨ao, cap, rfl, hb, _⟩ := h.bytes
  refine ⟨ao, _, cap, rfl, hb, fun a e hl => ?_⟩
  rcases h.1.2 with ⟨e1, h0⟩ | ⟨g, cap', cur, e1, hb, hg, _⟩
  · injection e1 with e2
    rw [e2] at e; cases e
  · injection e1 with e2
    rw [e] at e2
    injection e2 with e2
    subst e2
    exact .inr ⟨cur, (0, 0), hg⟩
theorem Elem.of_old {w w0 : World} {base : Nat} {ao : Option Addr} {n cap : Nat} {l : List UInt8} (h : IsBytes w0 ao n cap l) (hs : w0.heap.size ≤ base) (hb : Below w0.heap.size w0 w) : Elem w base (.slice ao n cap) l := by
  refine ⟨ao, n, cap, rfl, h.later hb, fun a e hl => .inl ?_⟩
  obtain ⟨b, off, e2, hc⟩ := h.2.2.2.1 hl
  rw [e] at e2
  cases e2
  exact Nat.lt_of_lt_of_le (hc.lt hl) hs
/-- a step that keeps what is below base, and each row of bytes. -/
theorem Elem.move {w w' : World} {base : Nat} {u : Value} {l : List UInt8} (h : Elem w base u l) (hlow : ∀ j, j < base → ∀ off v, w.cell? ⟨j, off, none⟩ = some (.int .u8 v) → w'.heap[j]? = w.heap[j]?)
    (hty : ∀ (j : Nat) (c : Array Value) (fr : Nat × Nat), w.heap[j]? = some (.cells c 5 fr) → w'.heap[j]? = w.heap[j]?) : Elem w' base u l := by
  obtain ⟨ao, n, cap, rfl, hb, ht⟩ := h
  by_cases hl : l = []
  · subst hl
    refine ⟨ao, n, cap, rfl, ⟨hb.1, hb.2.1, hb.2.2.1, fun h => absurd rfl h, hb.2.2.2.2⟩, fun a _ hl => absurd rfl hl⟩
  · obtain ⟨b, off, e, hc⟩ := hb.2.2.2.1 hl
    have hl0 : 0 < l.length := by cases l; exact absurd rfl hl; simp
    have hkeep : w'.heap[b]? = w.heap[b]? := by
      rcases ht _ e hl with h | ⟨c, fr, h⟩
      · exact hlow b h _ _ (hc 0 hl0)
      · exact hty b c fr h
    refine ⟨ao, n, cap, rfl, ⟨hb.1, hb.2.1, hb.2.2.1, fun _ => ⟨b, off, e, fun i hi => (World.cell?_of_block hkeep).trans (hc i hi)⟩, hb.2.2.2.2⟩, fun a ea _ => ?_⟩
    rw [e] at ea
    cases ea
    rcases ht _ e hl with h | ⟨c, fr, h⟩
    · exact .inl h
    · exact .inr ⟨c, fr, hkeep.trans h⟩
/-- a row of slices of one's own, each of which reads as so many bytes. -/
def OwnL (w : World) (base : Nat) (v : Value) (L : List (List UInt8)) : Prop :=
  ∃ vs : List Value, w.ownsRow base 24 1 v L.length vs ∧ AllCells w v (fun u => plainV u = true) ∧ ∀ i, i < L.length → ∃ u, vs[i]? = some u ∧ Elem w base u (L.getD i [])
theorem OwnL.nil (w : World) (base : Nat) : OwnL w base (.slice none 0 0) [] := ⟨[], World.ownsRow_nil _ _ _ _, fun g c t f hg => by simp [Value.ownBlock] at hg, fun i hi => absurd hi (by simp)⟩
theorem Lists.ownL {w : World} {b base : Nat} {v : Value} {L : List (List UInt8)} (h : Lists w b v L) (hb : base ≤ b) : OwnL w base v L := by
  obtain ⟨vs, h1, ⟨h2, h2a⟩, h3⟩ := h
  refine ⟨vs, ownsRow_base h2 hb, h2a, fun i hi => ?_⟩
  obtain ⟨u, hu, ho⟩ := h3 i hi
  exact ⟨u, hu, .of_own ho⟩
theorem OwnL.reads {w : World} {base : Nat} {v : Value} {L : List (List UInt8)} (h : OwnL w base v L) : ∃ ao cap, v = .slice ao L.length cap ∧ IsLists w ao L.length cap L := by
  obtain ⟨vs, h2, _, h3⟩ := h
  rcases h2.2 with ⟨rfl, h0⟩ | ⟨g, cap, cur, rfl, hb, hg, hn, hm, hs, ht⟩
  · have : L = [] := List.eq_nil_of_length_eq_zero h0
    subst this
    exact ⟨none, 0, rfl, IsLists.nil w⟩
  · refine ⟨_, cap, rfl, rfl, hn, hm, (fun h => by cases h), fun i hi => ?_⟩
    obtain ⟨u, hu, aoi, ni, capi, rfl, hb2, _⟩ := h3 i hi
    have hc := h2.cells (g := g) rfl i _ hu
    have : (⟨g, 0, none⟩ : Addr).add i = ⟨g, 0 + i, none⟩ := by unfold Addr.add; split <;> simp_all
    rw [this] at hc
    exact ⟨g, 0, aoi, ni, capi, rfl, hc, hb2⟩
theorem OwnL.none_new (w : World) (base : Nat) (hb : base ≤ w.heap.size) : OwnL (w.alloc (.cells #[] 24)) base (.slice (some ⟨w.heap.size, 0, none⟩) 0 0) [] :=
  ⟨[], World.ownsRow_made w #[] 0 hb (by unfold maxLen; omega) (by simp), fun g c t f hg hc u hu => by
    simp only [Value.ownBlock, Option.some.injEq] at hg
    subst hg
    rw [heap_alloc_new] at hc
    cases hc
    simp at hu, fun i hi => absurd hi (by simp)⟩
/-- a step that keeps what is below base, each row of bytes, and the row itself. -/
theorem OwnL.move {w w' : World} {base : Nat} {v : Value} {L : List (List UInt8)} (h : OwnL w base v L) (hlow : ∀ j, j < base → ∀ off v, w.cell? ⟨j, off, none⟩ = some (.int .u8 v) → w'.heap[j]? = w.heap[j]?)
    (hty : ∀ (j : Nat) (c : Array Value) (fr : Nat × Nat), w.heap[j]? = some (.cells c 5 fr) → w'.heap[j]? = w.heap[j]?)
    (hrow : ∀ (j : Nat) (c : Array Value), base ≤ j → w.heap[j]? = some (.cells c 24 (0, 0)) → w'.heap[j]? = w.heap[j]?) : OwnL w' base v L := by
  obtain ⟨vs, ho, ha, hi⟩ := h
  have hk : ∀ g, v.ownBlock = some g → w'.heap[g]? = w.heap[g]? := by
    intro g hg
    rcases ho.2 with ⟨rfl, _⟩ | ⟨g', cap, cur, rfl, hb, hg', _⟩
    · simp [Value.ownBlock] at hg
    · simp only [Value.ownBlock, Option.some.injEq] at hg
      subst hg
      exact hrow _ _ hb hg'
  refine ⟨vs, ownsRow_move ho hk, ha.move hk, fun i hl => ?_⟩
  obtain ⟨u, hu, he⟩ := hi i hl
  exact ⟨u, hu, he.move hlow hty⟩
theorem OwnL.later {w w' : World} {base : Nat} {v : Value} {L : List (List UInt8)} (h : OwnL w base v L) (hb : Below w.heap.size w w') : OwnL w' base v L :=
  h.move (fun j _ _ _ hc => hb.block j (block_lt_of_cell hc)) (fun j _ _ hj => hb.block j (heap_lt hj)) (fun j _ _ hj => hb.block j (heap_lt hj))
/-- a block of another kind stays behind an Add, a Crash, an Open. -/
theorem MovedL.cells {d mb f l base j : Nat} {w w' : World} {S : List UInt8} {D : List Deed} {n sz : Int} {br : Bool} {c : Array Value} {t : TypeId} {fr : Nat × Nat} (h : MovedL d mb f l base w w') (hd : DiskHas w d mb f base S D) (hl : LedRow w l d n sz br) (hj : w.heap[j]? = some (.cells c t fr))
    (h1 : t ≠ 67) (h2 : t ≠ 77) (h3 : t ≠ 94) (h4 : t ≠ 46) : w'.heap[j]? = some (.cells c t fr) := by
  obtain ⟨st, fu, out, cc, b, hbc, hmd, hdr, hm, ⟨⟨ao, n, cap, lv, hr, _⟩, _⟩⟩ := hd
  refine (h.block j (heap_lt hj) ?_ ?_ ?_ ?_ ?_).trans hj
  · rintro rfl; unfold DiskRow at hdr; rw [hdr] at hj; cases hj; exact h1 rfl
  · rintro rfl; rw [hm] at hj; cases hj
  · rintro rfl; unfold FileRow at hr; rw [hr] at hj; cases hj; exact h2 rfl
  · rintro rfl; unfold LedRow at hl; rw [hl] at hj; cases hj; exact h4 rfl
  · intro _ c' t' e; rw [hj] at e; cases e; exact h3 rfl
theorem Moved.cellsH {d mb f base j : Nat} {w w' : World} {S : List UInt8} {D : List Deed} {c : Array Value} {t : TypeId} {fr : Nat × Nat} (h : Moved d mb f base w w') (hd : DiskHas w d mb f base S D) (hj : w.heap[j]? = some (.cells c t fr))
    (h1 : t ≠ 67) (h2 : t ≠ 77) (h3 : t ≠ 94) : w'.heap[j]? = some (.cells c t fr) := by
  obtain ⟨st, fu, out, cc, b, hbc, hmd, hdr, hm, ⟨⟨ao, n, cap, lv, hr, _⟩, _⟩⟩ := hd
  refine (h.block j (heap_lt hj) ?_ ?_ ?_ ?_).trans hj
  · rintro rfl; unfold DiskRow at hdr; rw [hdr] at hj; cases hj; exact h1 rfl
  · rintro rfl; rw [hm] at hj; cases hj
  · rintro rfl; unfold FileRow at hr; rw [hr] at hj; cases hj; exact h2 rfl
  · intro _ c' t' e; rw [hj] at e; cases e; exact h3 rfl
theorem OwnL.movedL {d mb f l base : Nat} {w w' : World} {v : Value} {L : List (List UInt8)} {S : List UInt8} {D : List Deed} {n sz : Int} {br : Bool} (h : OwnL w base v L) (hm : MovedL d mb f l base w w') (hd : DiskHas w d mb f base S D) (hl : LedRow w l d n sz br)
    (h1 : base ≤ d) (h2 : base ≤ mb) (h3 : base ≤ f) (h4 : base ≤ l) : OwnL w' base v L := by
  refine h.move (fun j hj off x hc => hm.block j (block_lt_of_cell hc) (by omega) (by omega) (by omega) (by omega) (fun hb => by omega)) (fun j c fr hj => ?_) (fun j c _ hj => ?_)
  · exact (hm.cells hd hl hj (by decide) (by decide) (by decide) (by decide)).trans hj.symm
  · exact (hm.cells hd hl hj (by decide) (by decide) (by decide) (by decide)).trans hj.symm
theorem OwnL.moved {d mb f base : Nat} {w w' : World} {v : Value} {L : List (List UInt8)} {S : List UInt8} {D : List Deed} (h : OwnL w base v L) (hm : Moved d mb f base w w') (hd : DiskHas w d mb f base S D)
    (h1 : base ≤ d) (h2 : base ≤ mb) (h3 : base ≤ f) : OwnL w' base v L := by
  refine h.move (fun j hj off x hc => hm.block j (block_lt_of_cell hc) (by omega) (by omega) (by omega) (fun hb => by omega)) (fun j c fr hj => ?_) (fun j c _ hj => ?_)
  · exact (hm.cellsH hd hj (by decide) (by decide) (by decide)).trans hj.symm
  · exact (hm.cellsH hd hj (by decide) (by decide) (by decide)).trans hj.symm
/-- a disk, while a row of slices of one's own grows. -/
theorem OwnL.plain {w : World} {base : Nat} {v : Value} {L : List (List UInt8)} (h : OwnL w base v L) : ∀ j, some j = v.ownBlock → ∃ c t fr, w.heap[j]? = some (.cells c t fr) ∧ t ≠ 67 ∧ t ≠ 77 ∧ t ≠ 94 ∧ ∀ v ∈ c.toList, plainV v = true := by
  intro j hj
  obtain ⟨vs, ho, ha, _⟩ := h
  rcases ho.2 with ⟨rfl, _⟩ | ⟨g', cap, cur, rfl, hb, hg', _⟩
  · simp [Value.ownBlock] at hj
  · simp only [Value.ownBlock, Option.some.injEq] at hj
    subst hj
    exact ⟨cur, _, _, hg', by decide, by decide, by decide, fun u hu => ha _ _ _ _ rfl hg' u (by simpa using hu)⟩
theorem DiskOwn.grown {fu : Int} {w w' : World} {d mb f base : Nat} {v : Value} {L : List (List UInt8)} {S : List UInt8} {D : List Deed} (h : DiskOwn w fu d mb f base S D) (ho : OwnL w base v L) (hg : w.grownBy w' v.ownBlock) : DiskOwn w' fu d mb f base S D :=
  h.moved (fun j => some j = v.ownBlock) ho.plain (fun j hj hn => hg.block j hj hn)
theorem LedRow.grown {w w' : World} {l d base : Nat} {n sz : Int} {br : Bool} {v : Value} {L : List (List UInt8)} (h : LedRow w l d n sz br) (ho : OwnL w base v L) (hg : w.grownBy w' v.ownBlock) : LedRow w' l d n sz br := by
  obtain ⟨vs, hv, _⟩ := ho
  exact (hg.block l (heap_lt h) (box_ne h hv (by decide))).trans h
/-- 'append(own, lists...)'. -/
theorem run_append_lists {w : World} (ty base : Nat) (v : Value) (L : List (List UInt8)) (hown : OwnL w base v L) (ao : Option Addr) (m c : Nat) (M : List (List UInt8)) (us : List Value) (hul : us.length = m) (hM : M.length = m) (hao : ao = none → m = 0 ∧ c = 0)
    (hcell : ∀ a, ao = some a → ∀ j u, us[j]? = some u → w.cell? (a.add j) = some u) (hel : ∀ i, i < m → ∃ u, us[i]? = some u ∧ Elem w base u (M.getD i []))
    (hnm : L.length + m ≤ 1000000) (hbase : base ≤ w.heap.size) :
    ∃ v' w', (Builtin.append_ #[22, 22] ty #[v, .slice ao m c]).run Try.prog w = .ok v' w' ∧ OwnL w' base v' (L ++ M) ∧ w.grownBy w' v.ownBlock := by
  obtain ⟨i0, hi, hz0, hz1, hz2⟩ := info_parts Try.infoSlice
  obtain ⟨vs, ho, ha, hv⟩ := hown
  have hrow : ∀ {j : Nat} {c : Array Value} {fr : Nat × Nat}, w.heap[j]? = some (.cells c 5 fr) → some j ≠ v.ownBlock := fun hj => box_ne hj ho (by decide)
  have hlow : ∀ j, j < base → some j ≠ v.ownBlock := fun j hj e => by have := (ho.lt j e.symm).1; omega
  have hkeep : ∀ {w' : World}, w.grownBy w' v.ownBlock → ∀ {u : Value} {l : List UInt8}, Elem w base u l → Elem w' base u l :=
    fun hg _ _ he => he.move (fun j hj off x hc => hg.block j (block_lt_of_cell hc) (hlow j hj)) (fun j c fr hj => hg.block j (heap_lt hj) (hrow hj))
  cases ao with
  | none =>
    obtain ⟨rfl, rfl⟩ := hao rfl
    obtain rfl : M = [] := List.eq_nil_of_length_eq_zero hM
    refine ⟨v, w, run_append_owned_none (P := Try.prog) (w := w) base _ ty _ i0 1 Try.underlying22 hi v _ _ ho, by rw [List.append_nil]; exact ⟨vs, ho, ha, hv⟩, ⟨rfl, rfl, rfl, Nat.le_refl _, fun _ _ _ => rfl⟩⟩
  | some ad =>
    have hone : ∀ u ∈ us, ∃ aoi ni capi, u = .slice aoi ni capi := by
      intro u hu
      obtain ⟨i, hi, rfl⟩ := List.getElem_of_mem hu
      obtain ⟨x, e, aoi, ni, capi, e2, _⟩ := hel i (by omega)
      rw [List.getElem?_eq_getElem hi] at e
      cases e
      exact ⟨aoi, ni, capi, e2⟩
    obtain ⟨v', w', hr, h2, h3, h4, _, _⟩ := run_append_all (P := Try.prog) w base 22 ty _ i0 _ 1 24 Try.underlying22 hi hz0 hz1 hz2 rfl (by decide) v _ _ ho ad m c us (by omega) (hcell ad rfl) (fun y hy => by obtain ⟨_, _, _, rfl⟩ := hone y hy; rfl) (by unfold maxLen; omega) (by omega) hbase (fun u => plainV u = true)
      (fun y hy => by simp [Value.cells] at hy; subst hy; rfl) (fun y hy => by obtain ⟨_, _, _, rfl⟩ := hone y hy; rfl) ha
    refine ⟨v', w', hr, ⟨vs ++ us, by rw [List.length_append, hM]; exact h2, h4, fun i hi => ?_⟩, h3⟩
    have hvl : vs.length = L.length := by have := ho.1; omega
    by_cases h : i < L.length
    · obtain ⟨u, hu, hb⟩ := hv i h
      refine ⟨u, by rw [List.getElem?_append_left (by omega)]; exact hu, ?_⟩
      rw [show (L ++ M).getD i [] = L.getD i [] by simp [List.getD_eq_getElem?_getD, List.getElem?_append_left h]]
      exact hkeep h3 hb
    · rw [List.length_append] at hi
      obtain ⟨u, hu, hb⟩ := hel (i - L.length) (by omega)
      refine ⟨u, by rw [List.getElem?_append_right (by omega), hvl]; exact hu, ?_⟩
      rw [show (L ++ M).getD i [] = M.getD (i - L.length) [] by simp [List.getD_eq_getElem?_getD, List.getElem?_append_right (show L.length ≤ i by omega)]]
      exact hkeep h3 hb
end Go.Proofs.Ytdglaacjefcfdaa
