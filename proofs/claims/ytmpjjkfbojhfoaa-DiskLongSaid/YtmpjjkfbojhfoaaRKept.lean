/- the reference's disk: what its calls leave as it was; a file's safe bytes -/
import Derived.Test.YtmpjjkfbojhfoaaRAppNew
namespace Go.Proofs.Ytmpjjkfbojhfoaa
open Go.RowKit
set_option linter.unusedSectionVars false
variable [Zone]
theorem IsBytesZ.later {w w' : World} {ao : Option Addr} {n cap : Nat} {l : List UInt8} (h : IsBytesZ w ao n cap l) (hb : Below w.heap.size w w') : IsBytesZ w' ao n cap l := h.moved fun j _ _ hc => hb.block j (block_lt_of_cell hc)
/-- the block in which the files lie. -/
theorem RefAt.listed {w : World} {r base : Nat} {R : List FileV} {N lf : Int} {fz out : Bool} (h : RefAt w r base R N fz lf out) {j : Nat} (hj : listOf w r = some j) : ∃ c fr, w.heap[j]? = some (.cells c 90 fr) ∧ ∀ u ∈ c, PlainV u := by
  obtain ⟨_, v, T, hr, hown, hf⟩ := h
  rw [listOf_row hr] at hj
  rcases hown.1.2 with ⟨rfl, _⟩ | ⟨g, cap, cur, rfl, _, hg, _⟩
  · simp [Value.ownBlock] at hj
  · simp only [Value.ownBlock, Option.some.injEq] at hj
    subst hj
    exact ⟨_, _, hg, fun u hu => hown.2.1 _ _ _ _ rfl hg u hu⟩
theorem RefAt.kept {w w' : World} {r base : Nat} {R : List FileV} {N lf : Int} {fz out : Bool} (h : RefAt w r base R N fz lf out) (hm : MovedR r base w w') {j : Nat} {c : Array Value} {t : TypeId} {fr : Nat × Nat} (hj : w.heap[j]? = some (.cells c t fr)) (h1 : t ≠ 43) (h2 : t ≠ 90) : w'.heap[j]? = w.heap[j]? := by
  refine hm.block j (heap_lt hj) ?_ (fun e => ?_)
  · rintro rfl
    obtain ⟨v, hr⟩ := h.row
    unfold RefRow at hr
    rw [hr] at hj
    injection hj with hj
    injection hj with _ hj
    exact h1 hj.symm
  · obtain ⟨c', fr', hg, _⟩ := h.listed e
    rw [hg] at hj
    injection hj with hj
    injection hj with _ hj
    exact h2 hj.symm
theorem RefAt.kept_map {w w' : World} {r base : Nat} {R : List FileV} {N lf : Int} {fz out : Bool} (h : RefAt w r base R N fz lf out) (hm : MovedR r base w w') {j c : Nat} {es : Array MapEntry} (hj : w.heap[j]? = some (.map es c)) : w'.heap[j]? = w.heap[j]? := by
  refine hm.block j (heap_lt hj) ?_ (fun e => ?_)
  · rintro rfl
    obtain ⟨v, hr⟩ := h.row
    unfold RefRow at hr
    rw [hr] at hj
    cases hj
  · obtain ⟨c', fr', hg, _⟩ := h.listed e
    rw [hg] at hj
    cases hj
theorem RefAt.kept_u8 {w w' : World} {r base : Nat} {R : List FileV} {N lf : Int} {fz out : Bool} (h : RefAt w r base R N fz lf out) (hm : MovedR r base w w') {j off : Nat} {v : Int} (hc : w.cell? ⟨j, off, none⟩ = some (.int .u8 v)) : w'.heap[j]? = w.heap[j]? := by
  refine hm.block j (block_lt_of_cell hc) ?_ (fun e => ?_)
  · rintro rfl
    obtain ⟨x, T, hr, hown, _⟩ := h.2
    obtain ⟨a, cap, rfl, _⟩ := hown.is3
    have hp : Plain w j := plain_of_cells hr (by simp [plainV])
    have := hp _ _ hc
    simp [plainV] at this
  · obtain ⟨c', fr', hg, hp⟩ := h.listed e
    simp only [World.cell?, hg] at hc
    have := hp _ (Array.mem_of_getElem? hc)
    simp [PlainV, plainV] at this
theorem RefAt.safeZ {w : World} {r base k g cap : Nat} {R : List FileV} {N lf : Int} {fz out : Bool} {sa : Option Addr} {sn sc : Nat} (h : RefAt w r base R N fz lf out) (hk : k < R.length) (hr : RefRow w r (.slice (some ⟨g, 0, none⟩) R.length cap) N fz lf out) (hq : w.cell? ⟨g, k * 3 + 1, none⟩ = some (.slice sa sn sc)) : IsBytesZ w sa sn sc (R.getD k f0).2.1 := by
  obtain ⟨_, v, T, hr', hown, hf⟩ := h
  obtain ⟨ao, cap', rfl, h3⟩ := hown.is3
  unfold RefRow at hr hr'
  rw [hr'] at hr
  injection hr with hr
  injection hr with hr _
  have e0 := congrArg (fun a : Array Value => a[0]?) hr
  simp at e0
  obtain ⟨e1, e2, _⟩ := e0
  subst e1
  obtain ⟨b, off, e, g0, g1, g2⟩ := h3.cells (show k < T.length by rw [hf.1]; exact hk)
  injection e with e
  injection e with e3 e4
  subst e3
  subst e4
  obtain ⟨_, ⟨a, n, c, e1, hb⟩, _⟩ := hf.2 k hk
  rw [Nat.zero_add, hq, e1] at g1
  injection g1 with g1
  injection g1 with g1 g2 g3
  subst g1
  subst g2
  subst g3
  exact hb
theorem atR_ex (s : ByteArray) (R : List FileV) : ∃ z, AtR s R z := by
  have key : ∀ d k, R.length - k = d → k ≤ R.length → (∀ j, j < k → (R.getD j f0).1 ≠ s) → ∃ z, AtR s R z := by
    intro d
    induction d with
    | zero => exact fun k h1 h2 h3 => ⟨-1, .inr ⟨rfl, fun j hj => h3 j (by omega)⟩⟩
    | succ d ih =>
      intro k h1 h2 h3
      by_cases hb : (R.getD k f0).1 = s
      · exact ⟨k, .inl ⟨k, rfl, by omega, hb, h3⟩⟩
      · refine ih (k + 1) (by omega) (by omega) (fun j hj => ?_)
        rcases Nat.lt_succ_iff_lt_or_eq.1 hj with q | rfl
        · exact h3 j q
        · exact hb
  exact key _ 0 rfl (Nat.zero_le _) (fun j hj => absurd hj (by omega))
end Go.Proofs.Ytmpjjkfbojhfoaa
