/- juris: Stack -/
import Derived.Test.YtbidappkmnedaaaJSort
namespace Go.Proofs.Ytbidappkmnedaaa
open Go.RowKit
theorem keeps_iff (M : List Int) (j : Nat) (hj : j < M.length) : Lib.keeps M.toArray j = true ↔ (j = 0 ∨ M.getD j 0 ≠ M.getD (j - 1) 0) := by
  unfold Lib.keeps
  rw [decide_eq_true_eq]
  by_cases h0 : j = 0
  · simp [h0]
  · rw [getElem!_pos M.toArray j (by simpa using hj), getElem!_pos M.toArray (j - 1) (by simp; omega), List.getD_eq_getElem?_getD, List.getD_eq_getElem?_getD, List.getElem?_eq_getElem hj, List.getElem?_eq_getElem (show j - 1 < M.length by omega)]
    simp
theorem compact_len (M : List Int) : (Lib.compact M).length = M.length ↔ ∀ j, 0 < j → j < M.length → M.getD j 0 ≠ M.getD (j - 1) 0 := by
  unfold Lib.compact Lib.compactUpTo
  rw [List.length_map]
  constructor
  · intro h j h0 hj
    have := (List.length_filter_eq_length_iff (l := List.range M.length) (p := Lib.keeps M.toArray)).1 (by rw [h, List.length_range]) j (List.mem_range.2 hj)
    rcases (keeps_iff M j hj).1 this with h | h
    · omega
    · exact h
  · intro h
    have := (List.length_filter_eq_length_iff (l := List.range M.length) (p := Lib.keeps M.toArray)).2 (fun j hj => (keeps_iff M j (List.mem_range.1 hj)).2 (by
      rcases Nat.eq_zero_or_pos j with h0 | h0
      · exact .inl h0
      · exact .inr (h j h0 (List.mem_range.1 hj))))
    rw [this, List.length_range]
theorem ordJ_tot {L : List Jur} {a b : Int} (h1 : ¬ ordJ L a b < 0) (h2 : ¬ ordJ L b a < 0) : a = b := by
  rw [ordJ_lt] at h1 h2
  omega
theorem nodup_getD {M : List Int} : M.Nodup ↔ ∀ i j, i < j → j < M.length → M.getD i 0 ≠ M.getD j 0 := by
  rw [List.nodup_iff_pairwise_ne, List.pairwise_iff_getElem]
  constructor
  · intro h i j hij hj
    have := h i j (by omega) hj hij
    rwa [List.getD_eq_getElem?_getD, List.getD_eq_getElem?_getD, List.getElem?_eq_getElem hj, List.getElem?_eq_getElem (show i < M.length by omega)]
  · intro h i j hi hj hij
    have := h i j hij hj
    rwa [List.getD_eq_getElem?_getD, List.getD_eq_getElem?_getD, List.getElem?_eq_getElem hj, List.getElem?_eq_getElem (show i < M.length by omega)] at this
/-- of a sorted list nothing is left out just if no number is there twice. -/
theorem compact_nodup {L : List Jur} {M : List Int} (hs : SortedJ L M) : (Lib.compact M).length = M.length ↔ M.Nodup := by
  rw [compact_len, nodup_getD]
  constructor
  · intro h i j hij hj e
    have hi1 : M.getD (i + 1) 0 ≠ M.getD i 0 := h (i + 1) (by omega) (by omega)
    have a1 := hs i (i + 1) (by omega) (by omega)
    rcases Nat.lt_or_ge (i + 1) j with h1 | h1
    · have a2 := hs (i + 1) j h1 hj
      rw [← e] at a2
      exact hi1 (ordJ_tot a1 a2)
    · obtain rfl : j = i + 1 := by omega
      exact hi1 e.symm
  · intro h j h0 hj e
    exact h (j - 1) j (by omega) hj e.symm
/-- what Stack tells. -/
def StackIs (L : List Jur) (ids : List Int) (e : Int) (M : List Int) : Prop :=
  ((checkP L).1 ≠ 0 → e = (checkP L).1 ∧ M = []) ∧
  ((checkP L).1 = 0 → (∃ x ∈ ids, atJ L x = none) → e = 6 ∧ M = []) ∧
  ((checkP L).1 = 0 → (∀ x ∈ ids, atJ L x ≠ none) → ¬ ids.Nodup → e = 7 ∧ M = []) ∧
  ((checkP L).1 = 0 → (∀ x ∈ ids, atJ L x ≠ none) → ids.Nodup → e = 0 ∧ M.Perm ids ∧ SortedJ L M)
theorem getD_memI {M : List Int} {i : Nat} (h : i < M.length) : M.getD i 0 ∈ M := by
  rw [List.getD_eq_getElem?_getD, List.getElem?_eq_getElem h]
  exact List.getElem_mem h
theorem mem_getDI {M : List Int} {x : Int} (h : x ∈ M) : ∃ i, i < M.length ∧ M.getD i 0 = x := by
  obtain ⟨i, hi, rfl⟩ := List.mem_iff_getElem.1 h
  exact ⟨i, hi, by rw [List.getD_eq_getElem?_getD, List.getElem?_eq_getElem hi]; rfl⟩
set_option maxRecDepth 100000 in
set_option maxHeartbeats 2000000 in
theorem Stack_any (ao : Option Addr) (n cap : Nat) (L : List Jur) (bo : Option Addr) (m cap2 : Nat) (ids : List Int) (w : World) (h : IsJurs w ao n cap L) (h2 : IsInts w bo m cap2 ids) (hm : m ≤ 100000) :
    Calls Try.prog 17 #[.slice ao n cap, .slice bo m cap2] w fun e w' => ∃ v r M, e = .returned (.tuple #[v, .int .i64 r]) ∧ StackIs L ids r M ∧ OwnI w' w.heap.size v M ∧ Below w.heap.size w w' := by
  obtain ⟨B, hBe⟩ : ∃ B, B = w.heap.size := ⟨_, rfl⟩
  obtain ⟨w0, hw0⟩ : ∃ w0, w0 = w.alloc (Obj.cells #[.slice ao n cap] 22) := ⟨_, rfl⟩
  have hg0 : Grew w w0 := by rw [hw0]; exact (Grew.refl w).alloc _
  have hB0 : w0.cell? ⟨B, 0, none⟩ = some (.slice ao n cap) := by rw [hw0, hBe]; exact alloc_cell _ _ _
  have HJ0 := Lib.hid (h.grew hg0)
  have HI0 := Lib.hid (h2.grew hg0)
  have HCK := Lib.hid (Check_any ao n cap L w0 (h.grew hg0))
  have HG0 := Lib.hid hg0
  have HB0 := Lib.hid hB0
  have HBE := Lib.hid hBe
  have HLI : Hid (ids.length = m) := h2.1
  have hmc := h2.2.1
  have hmm := h2.2.2.1
  unfold maxLen at hmm
  obtain ⟨ce, hce⟩ : ∃ c, c = (checkP L).1 := ⟨_, rfl⟩
  obtain ⟨ci, hci⟩ : ∃ c, c = (checkP L).2 := ⟨_, rfl⟩
  rw [← hce, ← hci] at HCK
  have HCE := Lib.hid hce
  by_cases hc0 : ce = 0
  · subst hc0
    clear h h2 hg0 hBe hce hci hB0
    have HW0 := Lib.hid hw0
    clear hw0
    go_enter Try.func17, Try.ntmps17
    go_wp2_with fail
    rw [← HW0.out, ← HBE.out]
    refine HCK.out.mono ?_
    rintro e w1 ⟨rfl, hg1⟩
    have HG1 := Lib.hid hg1
    clear hg1
    go_wp2_with fail
    go_loopw [21] (fun i wr => ∃ k : Nat, k ≤ m ∧ i = .int .i64 k ∧ Hid (∀ j, j < k → atJ L (ids.getD j 0) ≠ none) ∧ Hid (Grew w0 wr)) (fun i _ => m - (intOf i).toNat)
    case atStart => exact ⟨0, by omega, rfl, fun j hj => absurd hj (by omega), HG1.out⟩
    case round =>
      obtain ⟨k, hk, rfl, hall, hgr⟩ := hrel
      by_cases hlt : k < m
      · have hi0 : (0 : Int) ≤ (k : Int) := by omega
        have hi1 : (k : Int) < (m : Int) := by omega
        obtain ⟨b, off, rfl, hcs⟩ := (HI0.out.grew hgr.out).2.2.2.1 (by omega)
        have hc := hcs k hlt
        obtain ⟨x, hx⟩ : ∃ x, x = ids.getD k 0 := ⟨_, rfl⟩
        rw [← hx] at hc
        have hB1 : wr.cell? ⟨B, 0, none⟩ = some (.slice ao n cap) := hgr.out.cell HB0.out
        have HP := Lib.hid (place_any ao n cap L x wr (HJ0.out.grew hgr.out))
        have HX := Lib.hid hx
        clear hcs hx
        cases ha : atJ L x with
        | none =>
          have hp : placeJ L x = -1 := by unfold placeJ; rw [ha]
          rw [hp] at HP
          have HA := Lib.hid ha
          clear hp ha
          go_wp2_with fail
          refine HP.out.mono ?_
          rintro e w2 ⟨rfl, hg2⟩
          go_wp2_with fail
          go_ret2
          refine ⟨_, _, [], rfl, ⟨fun h => absurd HCE.out.symm h, fun _ _ => ⟨rfl, rfl⟩, fun _ h => absurd HA.out (by rw [HX.out]; exact h _ (getD_memI (by rw [HLI.out]; exact hlt))), fun _ h => absurd HA.out (by rw [HX.out]; exact h _ (getD_memI (by rw [HLI.out]; exact hlt)))⟩, OwnI.nil _ _, ?_⟩
          exact (HG0.out.trans (hgr.out.trans hg2)).1
        | some i =>
          have hp : placeJ L x = (i : Int) := by unfold placeJ; rw [ha]
          rw [hp] at HP
          have hin : ¬ ((i : Int) < 0) := by omega
          have HA := Lib.hid ha
          clear hp ha
          go_wp2_with fail
          refine HP.out.mono ?_
          rintro e w2 ⟨rfl, hg2⟩
          go_wp2_with fail
          go_roundw
          case rel =>
            refine ⟨k + 1, by omega, by go_num, fun j hj => ?_, hgr.out.trans hg2⟩
            by_cases hjk : j < k
            · exact hall.out j hjk
            · obtain rfl : j = k := by omega
              rw [← HX.out, HA.out]; simp
          case measure => simp [intOf]; omega
      · obtain rfl : k = m := by omega
        have hmem : ∀ x ∈ ids, atJ L x ≠ none := fun x hx => by
          obtain ⟨i, hi, rfl⟩ := mem_getDI hx
          exact hall.out i (by rw [← HLI.out]; exact hi)
        have HME := Lib.hid hmem
        have HCL := Lib.hid (Clone_any bo k cap2 ids wr (HI0.out.grew hgr.out) hm)
        have HGR := Lib.hid (And.intro hgr.out (And.intro (hgr.out.cell HB0.out) (HJ0.out.grew hgr.out)))
        have hB1 : wr.cell? ⟨B, 0, none⟩ = some (.slice ao n cap) := hgr.out.cell HB0.out
        clear hmem hall hgr
        go_wp2_with fail
        refine HCL.out.mono ?_
        rintro e w2 ⟨v2, rfl, hown2, hb2⟩
        obtain ⟨a2, c2, hv2, _⟩ := hown2.ints
        subst hv2
        rw [HLI.out] at hown2 ⊢
        have HSF := Lib.hid (SortFunc_any wr.heap.size B _ ids L ao n cap w2 hown2 hb2.size (by rw [HLI.out]; exact hm) HME.out (fun W hW => HGR.out.2.2.later (hb2.trans hW) (Nat.le_refl _)) (fun W hW => ((hb2.trans hW).cell (p := ⟨B, 0, none⟩) (block_lt_of_cell HGR.out.2.1)).trans HGR.out.2.1))
        have HB2 := Lib.hid hb2
        clear hown2 hb2
        go_wp2_with fail
        refine HSF.out.mono ?_
        rintro e w3 ⟨rfl, M, hown3, hperm, hso, hb3⟩
        have hl : M.length = k := by rw [hperm.length_eq]; exact HLI.out
        obtain ⟨a3, c3, hv3, hi3⟩ := hown3.ints
        rw [hl] at hv3 hi3
        injection hv3 with hv31 _ hv32
        subst hv31 hv32
        have HCL2 := Lib.hid (Clone_any a2 k c2 M w3 hi3 hm)
        have hb03 : Below w.heap.size w w3 := HG0.out.1.trans ((HGR.out.1.1.mono HG0.out.size).trans ((HB2.out.trans hb3).mono (HG0.out.trans HGR.out.1).size))
        have HM := Lib.hid (And.intro hown3 (And.intro hperm (And.intro hso (And.intro hb03 (And.intro hl (Nat.le_trans HB2.out.size hb3.size))))))
        clear hown3 hperm hso hb3 hl hi3 hb03
        go_wp2_with fail
        refine HCL2.out.mono ?_
        rintro e w4 ⟨v4, rfl, hown4, hb4⟩
        have HCM := Lib.hid (Compact_any w3.heap.size v4 M w4 hown4 hb4.size (by rw [HM.out.2.2.2.2.1]; exact hm))
        have HB4 := Lib.hid hb4
        clear hown4 hb4
        go_wp2_with fail
        refine HCM.out.mono ?_
        rintro e w5 ⟨⟨a5, c5, rfl⟩, hb5⟩
        have hcn := compact_nodup HM.out.2.2.1
        rw [HM.out.2.2.2.2.1] at hcn
        have hb05 : Below w.heap.size w w5 := HM.out.2.2.2.1.trans ((HB4.out.trans hb5).mono HM.out.2.2.2.1.size)
        have ho5 : OwnI w5 w.heap.size (.slice a2 k c2) M := (HM.out.1.laterB (B := w3.heap.size) (HB4.out.trans hb5) (Nat.le_refl _)).base (HG0.out.trans HGR.out.1).size
        generalize (Lib.compact M).length = q at hcn ⊢
        have HF := Lib.hid (And.intro hcn (And.intro hb05 ho5))
        clear hcn hb05 ho5 hb5
        by_cases hnd : M.Nodup
        · obtain rfl : q = k := HF.out.1.2 hnd
          have HND := Lib.hid hnd
          clear hnd
          go_wp2_with fail
          go_ret2
          refine ⟨_, _, M, rfl, ⟨fun h => absurd HCE.out.symm h, fun _ ⟨x, hx, hn⟩ => absurd hn (HME.out x hx), fun _ _ h => absurd (HM.out.2.1.nodup_iff.1 HND.out) h, fun _ _ _ => ⟨rfl, HM.out.2.1, HM.out.2.2.1⟩⟩, HF.out.2.2, HF.out.2.1⟩
        · have hqk : q ≠ k := fun h => hnd (HF.out.1.1 h)
          have hq1 : ((q : Int) == (k : Int)) = false := by simp; omega
          have hq2 : (q == k) = false := by simpa using hqk
          have HND := Lib.hid hnd
          clear hnd hqk
          go_wp2_with fail
          go_ret2
          refine ⟨_, _, [], rfl, ⟨fun h => absurd HCE.out.symm h, fun _ ⟨x, hx, hn⟩ => absurd hn (HME.out x hx), fun _ _ _ => ⟨rfl, rfl⟩, fun _ _ h => absurd (HM.out.2.1.nodup_iff.2 h) HND.out⟩, OwnI.nil _ _, HF.out.2.1⟩
  · have HW0 := Lib.hid hw0
    have hcb : (ce == 0) = false := by simpa using hc0
    have hcn : (ce != 0) = true := by simpa using hc0
    have HC0 := Lib.hid hc0
    clear h h2 hg0 hBe hce hci hw0 hc0 hB0
    go_enter Try.func17, Try.ntmps17
    go_wp2_with fail
    rw [← HW0.out]
    refine HCK.out.mono ?_
    rintro e w1 ⟨rfl, hg1⟩
    go_wp2_with fail
    go_ret2
    have hx := HC0.out
    refine ⟨_, _, [], rfl, ⟨fun _ => ⟨HCE.out, rfl⟩, fun h => absurd h (by rw [← HCE.out]; exact hx), fun h => absurd h (by rw [← HCE.out]; exact hx), fun h => absurd h (by rw [← HCE.out]; exact hx)⟩, OwnI.nil _ _, (HG0.out.trans hg1).1⟩
end Go.Proofs.Ytbidappkmnedaaa
