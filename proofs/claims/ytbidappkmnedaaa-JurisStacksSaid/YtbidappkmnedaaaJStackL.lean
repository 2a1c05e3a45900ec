/- law 20: JurisStack, walked -/
import Derived.Test.YtbidappkmnedaaaJAwake
import Derived.Test.YtbidappkmnedaaaJBig
import Derived.Deep.QuietTactic
namespace Go.Proofs.Ytbidappkmnedaaa
open Go.RowKit
/-- a stack is the same, however its numbers are turned about. -/
theorem stack_perm {L : List Jur} {ids ms : List Int} {e f : Int} {M N : List Int} (h1 : StackIs L ids e M) (h2 : StackIs L ms f N) (hp : ms.Perm ids) : e = f ∧ M = N := by
  by_cases hc : (checkP L).1 = 0
  · by_cases hx : ∃ x ∈ ids, atJ L x = none
    · have hx2 : ∃ x ∈ ms, atJ L x = none := by
        obtain ⟨x, hm, ha⟩ := hx
        exact ⟨x, hp.mem_iff.2 hm, ha⟩
      obtain ⟨rfl, rfl⟩ := h1.2.1 hc hx
      obtain ⟨rfl, rfl⟩ := h2.2.1 hc hx2
      exact ⟨rfl, rfl⟩
    · have ha1 : ∀ x ∈ ids, atJ L x ≠ none := fun x hm h => hx ⟨x, hm, h⟩
      have ha2 : ∀ x ∈ ms, atJ L x ≠ none := fun x hm => ha1 x (hp.mem_iff.1 hm)
      by_cases hn : ids.Nodup
      · obtain ⟨rfl, p1, s1⟩ := h1.2.2.2 hc ha1 hn
        obtain ⟨rfl, p2, s2⟩ := h2.2.2.2 hc ha2 (hp.nodup_iff.2 hn)
        exact ⟨rfl, sortedJ_unique (p1.trans (hp.symm.trans p2.symm)) s1 s2⟩
      · obtain ⟨rfl, rfl⟩ := h1.2.2.1 hc ha1 hn
        obtain ⟨rfl, rfl⟩ := h2.2.2.1 hc ha2 (fun h => hn (hp.nodup_iff.1 h))
        exact ⟨rfl, rfl⟩
  · obtain ⟨rfl, rfl⟩ := h1.1 hc
    obtain ⟨rfl, rfl⟩ := h2.1 hc
    exact ⟨rfl, rfl⟩
/-- what a stack that is told is. -/
theorem stack_told {L : List Jur} {ids : List Int} {M : List Int} (h : StackIs L ids 0 M) : (checkP L).1 = 0 ∧ (∀ x ∈ ids, atJ L x ≠ none) ∧ ids.Nodup ∧ M.Perm ids ∧ SortedJ L M := by
  have hc : (checkP L).1 = 0 := by
    by_cases hc : (checkP L).1 = 0
    · exact hc
    · have := (h.1 hc).1; omega
  have ha : ∀ x ∈ ids, atJ L x ≠ none := fun x hm hx => by have := (h.2.1 hc ⟨x, hm, hx⟩).1; omega
  have hn : ids.Nodup := by
    by_cases hn : ids.Nodup
    · exact hn
    · have := (h.2.2.1 hc ha hn).1; omega
  obtain ⟨_, hp, hs⟩ := h.2.2.2 hc ha hn
  exact ⟨hc, ha, hn, hp, hs⟩
theorem stack_refused {L : List Jur} {ids : List Int} {e : Int} {M : List Int} (h : StackIs L ids e M) (he : e ≠ 0) : M = [] := by
  by_cases hc : (checkP L).1 = 0
  · by_cases hx : ∃ x ∈ ids, atJ L x = none
    · exact (h.2.1 hc hx).2
    · have ha1 : ∀ x ∈ ids, atJ L x ≠ none := fun x hm h => hx ⟨x, hm, h⟩
      by_cases hn : ids.Nodup
      · exact absurd (h.2.2.2 hc ha1 hn).1 he
      · exact (h.2.2.1 hc ha1 hn).2
  · exact (h.1 hc).2
theorem id_ok {L : List Jur} (h : (checkP L).1 = 0) {i : Nat} (hi : i < L.length) : 1 ≤ (L.getD i j0).id := by
  have := (check_ok h).2.1 i hi
  unfold rankP at this
  split at this
  · cases this
  · omega
/-- of a stack: which stands ahead of which. -/
theorem stack_ahead {L : List Jur} {ids M : List Int} (h : StackIs L ids 0 M) {k i p q : Nat} (hk : k < i) (hi : i < M.length) (hp : atJ L (M.getD k 0) = some p) (hq : atJ L (M.getD i 0) = some q) :
    ((L.getD p j0).ki < (L.getD q j0).ki ∨ ((L.getD p j0).ki = (L.getD q j0).ki ∧ (L.getD p j0).id < (L.getD q j0).id)) ∧ (L.getD p j0).pa ≠ (L.getD q j0).id := by
  obtain ⟨hc, ha, hn, hpm, hs⟩ := stack_told h
  have hd := nodup_getD.1 (hpm.nodup_iff.2 hn) k i hk hi
  have hso := hs k i hk hi
  rw [ordJ_lt, kiOf_some hp, kiOf_some hq] at hso
  have e1 := (atJ_lt hp).2.1
  have e2 := (atJ_lt hq).2.1
  rw [← e1, ← e2] at hso hd
  have hlt : (L.getD p j0).ki < (L.getD q j0).ki ∨ ((L.getD p j0).ki = (L.getD q j0).ki ∧ (L.getD p j0).id < (L.getD q j0).id) := by omega
  refine ⟨hlt, fun e => ?_⟩
  by_cases h0 : (L.getD p j0).pa = 0
  · have := id_ok hc (atJ_lt hq).1
    omega
  · obtain ⟨kk, h1, _, h2⟩ := parent_ok hc (atJ_lt hp).1 h0
    rw [e, e2, hq] at h1
    cases h1
    omega
theorem count_one {L : List Jur} {ids M : List Int} (h : StackIs L ids 0 M) {i : Nat} (hi : i < M.length) : ids.count (M.getD i 0) = 1 := by
  obtain ⟨hc, ha, hn, hpm, hs⟩ := stack_told h
  have hm : M.getD i 0 ∈ ids := hpm.mem_iff.1 (getD_memI hi)
  have h1 := List.nodup_iff_count.1 hn (M.getD i 0)
  have h2 := List.count_pos_iff.2 hm
  omega
theorem count_succ {l : List Int} {q : Nat} {x : Int} (hq : q < l.length) : (l.take (q + 1)).count x = (l.take q).count x + if l.getD q 0 = x then 1 else 0 := by
  rw [List.take_succ_eq_append_getElem hq, List.count_append, List.getD_eq_getElem?_getD, List.getElem?_eq_getElem hq]
  simp [List.count_singleton]
set_option maxHeartbeats 400000 in
theorem Pick_any (x n : Int) (w : World) (hx0 : -9223372036854775808 ≤ x) (hx1 : x ≤ 9223372036854775807) (hn : 1 ≤ n) (hn2 : n ≤ 4611686018427387904) :
    Calls Try.prog 18 #[.int .i64 x, .int .i64 n] w fun e w' => e = .returned (.int .i64 (x % n)) ∧ w = w' := by
  by_cases h0 : 0 ≤ x
  · have hm := Int.emod_nonneg x (b := n) (by omega)
    have hm2 := Int.emod_lt_of_pos x (b := n) (by omega)
    go_enter Try.func18, Try.ntmps18
    go_wp2
    all_goals go_ret
    all_goals exact ⟨rfl, rfl⟩
  · have hm := Int.emod_nonneg x (b := n) (by omega)
    have hm2 := Int.emod_lt_of_pos x (b := n) (by omega)
    have ht : x.tmod n = if x % n = 0 then 0 else x % n - n := by
      rw [Int.tmod_eq_emod]
      by_cases hz : x % n = 0
      · have hd : n ∣ x := Int.dvd_of_emod_eq_zero hz
        rw [if_pos hz, if_pos (.inr hd)]; omega
      · have hd : ¬ n ∣ x := fun h => hz (Int.emod_eq_zero_of_dvd h)
        rw [if_neg hz, if_neg (by rintro (h | h); exact h0 h; exact hd h)]; omega
    go_enter Try.func18, Try.ntmps18
    go_wp2
    all_goals go_ret
    all_goals exact ⟨rfl, rfl⟩
theorem flatI_set (L : List Int) (j : Nat) (x : Int) : (flatI L).set j (.int .i64 x) = flatI (L.set j x) := by
  unfold flatI; rw [List.map_set]
theorem OwnI.put {w : World} {base g n cap : Nat} {L : List Int} (h : OwnI w base (.slice (some ⟨g, 0, none⟩) n cap) L) (j : Nat) (x : Int) : OwnI (w.setCell ⟨g, j, none⟩ (.int .i64 x)) base (.slice (some ⟨g, 0, none⟩) n cap) (L.set j x) := by
  have hn : n = L.length := by
    obtain ⟨ao, c, e, _⟩ := h.ints
    cases e; rfl
  subst hn
  have := (World.ownsRow.stored h j (.int .i64 x)).1
  rw [flatI_set] at this
  unfold OwnI
  rw [List.length_set]
  exact this
theorem OwnI.notFrozen {w : World} {base g n cap : Nat} {L : List Int} (h : OwnI w base (.slice (some ⟨g, 0, none⟩) n cap) L) (j : Nat) : w.frozen? ⟨g, j, none⟩ = false := by
  have hn : n = L.length := by
    obtain ⟨ao, c, e, _⟩ := h.ints
    cases e; rfl
  subst hn
  exact World.ownsRow.frozenAt h j
theorem OwnI.at {w : World} {base g n cap : Nat} {L : List Int} (h : OwnI w base (.slice (some ⟨g, 0, none⟩) n cap) L) {j : Nat} (hj : j < L.length) : w.cell? ⟨g, j, none⟩ = some (.int .i64 (L.getD j 0)) := by
  have hn : n = L.length := by
    obtain ⟨ao, c, e, _⟩ := h.ints
    cases e; rfl
  subst hn
  have := World.ownsRow.cellAt h j (by omega)
  rw [this]
  exact flatI_get L j hj
theorem swapI_perm {L : List Int} {p q : Nat} (hp : p < L.length) (hq : q < L.length) : ((L.set p (L.getD q 0)).set q (L.getD p 0)).Perm L := by
  have h1 : L.getD p 0 = L[p] := by rw [List.getD_eq_getElem?_getD, List.getElem?_eq_getElem hp]; rfl
  have h2 : L.getD q 0 = L[q] := by rw [List.getD_eq_getElem?_getD, List.getElem?_eq_getElem hq]; rfl
  rw [h1, h2]
  exact List.set_set_perm hp hq
end Go.Proofs.Ytbidappkmnedaaa
