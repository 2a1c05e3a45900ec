/- slices.SortFunc of certificates that the call owns -/
import Derived.Test.YtlmimocmllhbkaaCLaw
import Derived.Test.YtlmimocmllhbkaaCLay
namespace Go.Proofs.Ytlmimocmllhbkaa
open Go.RowKit Go.Sort
def encC (c : Crt) : List Value := c.row.toList
theorem encC_len (c : Crt) : (encC c).length = 5 := rfl
theorem encC_one (c : Crt) : ∀ v ∈ encC c, v.oneCell' = true := by
  intro u hu
  simp [encC, Crt.row] at hu
  rcases hu with rfl | rfl | rfl | rfl | rfl <;> rfl
theorem encC_get (c : Crt) (j : Nat) (h : j < 5) : (encC c)[j]! = .int .i64 (c.get j) := by
  have := c.row_get j h
  rw [← Array.getElem?_toList] at this
  rw [List.getElem!_eq_getElem?_getD, encC, this]; rfl
theorem toArray_get (L : List Crt) (i : Nat) : L.toArray[i]! = L.getD i c0 := by
  rw [Array.getElem!_eq_getD, Array.getD_eq_getD_getElem?, List.getElem?_toArray, List.getD_eq_getElem?_getD]; rfl
theorem flatK_flatC (d : Array Crt) : (flatK encC 5 d).toList = flatC d.toList := by
  apply List.ext_getElem?
  intro t
  by_cases ht : t < d.size * 5
  · have h1 := get_flatK encC 5 d t ht
    rw [encC_get _ _ (by omega)] at h1
    have h2 := flatC_get d.toList (t / 5) (t % 5) (by rw [Array.length_toList]; omega) (by omega)
    rw [show t / 5 * 5 + t % 5 = t by omega] at h2
    rw [h2, Array.getElem?_toList, Array.getElem?_eq_getElem (by rw [size_flatK]; exact ht)]
    rw [getElem!_pos _ _ (by rw [size_flatK]; exact ht)] at h1
    rw [h1]
    have h3 := toArray_get d.toList (t / 5)
    simp only [Array.toArray_toList] at h3
    rw [h3]
  · rw [List.getElem?_eq_none (by rw [Array.length_toList, size_flatK]; omega), List.getElem?_eq_none (by rw [flatC_length, Array.length_toList]; omega)]
theorem holdsC {w : World} {base g n cap : Nat} {L : List Crt} (h : OwnC w base (.slice (some ⟨g, 0, none⟩) n cap) L) : HoldsK encC 5 w g 0 L.toArray := by
  intro j hj
  rw [size_flatK, List.size_toArray] at hj
  obtain ⟨ao, cap', he, hcs⟩ := h.certs
  cases he
  have hc := hcs.cells j
  have hf := flatK_flatC L.toArray
  rw [List.toList_toArray] at hf
  have hg := flatC_get L (j / 5) (j % 5) (by omega) (by omega)
  rw [show j / 5 * 5 + j % 5 = j by omega] at hg
  have h1 := hc _ hg
  have : (⟨g, 0, none⟩ : Addr).add j = ⟨g, 0 + j, none⟩ := by unfold Addr.add; split <;> simp_all
  rw [this] at h1
  refine ⟨?_, ?_⟩
  · rw [h1, get_flatK encC 5 _ _ (by simpa using hj), encC_get _ _ (by omega), toArray_get]
    rfl
  · rcases h.2 with ⟨h1, _⟩ | ⟨g', cap', cur, he, hb, hg, hn, hm, hs, ht⟩
    · cases h1
    · cases he
      exact frozen_of_row _ _ _ _ _ hg
theorem enters_order : ∀ args w, (callFunc 19 args).run Try.prog w = .ok (.enter 19 args) w := enters_of Try.func19 (by kernel_rfl) rfl
theorem cmpLaysC (g n : Nat) (w : World) : Go.Proofs.CmpLays Try.prog 19 #[] encC 5 cmpC g 0 n w := by
  intro m os dk _ x y
  refine (order_grew x y _).mono ?_
  rintro e w' ⟨he, hg⟩
  exact ⟨he, hg.grow⟩
theorem SortFunc_any (base : Nat) (v : Value) (L : List Crt) (w : World) (h : OwnC w base v L) (hb : base ≤ w.heap.size) (hn : L.length ≤ 100000) :
    Calls Try.prog 23 #[v, .func (.func 19) #[] #[]] w fun e w' => e = .returned (.tuple #[]) ∧ ∃ M, OwnC w' base v M ∧ M.Perm L ∧ (∀ i j, i < j → j < M.length → ¬ cmpC (M.getD j c0) (M.getD i c0) < 0) ∧ Below base w w' := by
  have hown := h
  rcases h.2 with ⟨rfl, h0⟩ | ⟨g, cap, cur, rfl, hbg, hg, hnc, hm, hs, ht⟩
  · have : L = [] := List.eq_nil_of_length_eq_zero h0
    subst this
    have hcon := Go.Proofs.AnyF.slices_SortFunc_none Try.sortCert none 0 (.func (.func 19) #[] #[]) w
    change Calls Try.prog 23 _ _ _ at hcon
    refine hcon.mono ?_
    rintro e w' ⟨rfl, rfl⟩
    exact ⟨rfl, [], hown, List.Perm.refl _, fun i j _ hj => absurd hj (by simp), Below.refl _ _⟩
  · have hlt : g < w.heap.size := (Array.getElem?_eq_some_iff.1 hg).1
    have hcon := Go.Proofs.AnyQ.slices_SortFunc Try.sortCert 5 Try.isAgg30 Try.sizeOf30 encC encC_len encC_one cmpC swoC 19 #[] g 0 cap L.toArray w enters_order (cmpLaysC g _ w) (holdsC hown) hlt (by simp; omega)
    change Calls Try.prog 23 _ _ _ at hcon
    rw [List.size_toArray] at hcon
    refine hcon.mono ?_
    rintro e w' ⟨rfl, d', q, os, hp, hso, rfl⟩
    obtain ⟨hsz0, _, hperm⟩ := hp
    have hsz : d'.size = L.length := by simpa using hsz0
    clear hsz0
    have hF : (flatK encC 5 d').size = L.length * 5 := by rw [size_flatK, hsz]
    have hput : (sortWorldK encC 5 w g 0 q d' os).heap[g]? = some (.cells (putCells id 0 (flatK encC 5 d') cur) 30 (0, 0)) := by
      unfold sortWorldK
      rw [heap_grow_old _ _ (by unfold putRowK putRow mapBlock Go.Sort.ahead; simpa using hlt)]
      unfold putRowK putRow mapBlock Go.Sort.ahead
      simp only [Array.getElem?_modify, if_true, hg]
      rfl
    refine ⟨rfl, d'.toList, ⟨by rw [flatC_length], .inr ⟨g, cap, _, by rw [Array.length_toList (xs := d'), hsz], hbg, hput, by rw [Array.length_toList (xs := d'), hsz]; exact hnc, hm, ?_, ?_⟩⟩, ?_, ?_, ?_⟩
    · unfold putCells
      rw [Array.size_mapIdx, hs]
    · rw [← flatK_flatC]
      apply List.ext_getElem?
      intro i
      rw [List.getElem?_take, Array.length_toList (xs := d'), hsz]
      by_cases hi : i < L.length * 5
      · have hic : i < cur.size := by rw [hs]; exact Nat.lt_of_lt_of_le hi (Nat.mul_le_mul_right 5 hnc)
        rw [if_pos hi, Array.getElem?_toList, Array.getElem?_toList]
        unfold putCells
        rw [Array.getElem?_mapIdx, Array.getElem?_eq_getElem hic, Option.map_some, if_pos ⟨Nat.zero_le _, by rw [hF]; omega⟩, Nat.sub_zero, Array.getElem?_eq_getElem (by rw [hF]; exact hi), getElem!_pos _ _ (by rw [hF]; exact hi)]
        rfl
      · rw [if_neg hi, List.getElem?_eq_none (by rw [Array.length_toList, hF]; omega)]
    · rw [← hsz] at hperm
      have e1 : (d'.extract 0 d'.size).toList = d'.toList := by simp
      have e2 : (L.toArray.extract 0 d'.size).toList = L := by rw [hsz]; simp
      rwa [e1, e2] at hperm
    · intro i j hij hj
      rw [Array.length_toList (xs := d'), hsz] at hj
      have := hso i j (Nat.zero_le _) hij hj
      unfold Go.Proofs.ltOf at this
      have t1 := toArray_get d'.toList i
      have t2 := toArray_get d'.toList j
      simp only [Array.toArray_toList] at t1 t2
      rw [t1, t2] at this
      simpa using this
    · refine ⟨rfl, rfl, rfl, ?_, fun k hk => ?_⟩
      · unfold sortWorldK putRowK putRow mapBlock Go.Sort.ahead grow
        simp
      · unfold sortWorldK
        rw [heap_grow_old _ _ (by unfold putRowK putRow mapBlock Go.Sort.ahead; simp; omega)]
        unfold putRowK putRow mapBlock Go.Sort.ahead
        simp only [Array.getElem?_modify]
        rw [if_neg (by omega)]
end Go.Proofs.Ytlmimocmllhbkaa
