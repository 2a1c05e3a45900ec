/- region.normal, region.Same (printed by mksame11.py) -/
import Derived.Test.YtgijaaklhdcgeaaGreatMQSortR
import Derived.Test.YtgijaaklhdcgeaaGreatMNum1
import Derived.Test.YtgijaaklhdcgeaaGreatMRegX
set_option linter.unusedSimpArgs false
set_option linter.unusedVariables false
namespace Go.Proofs.YtgijaaklhdcgeaaGreat
open Go.RowKit Go.Geo
attribute [local go_sem] Oper.semAt_some
theorem normQ_len {r : List Pt} (h : (ringCheckP r).1 = 0) : (normQ r).length = r.length := by
  unfold normQ normP
  rw [if_neg (sign_ne h)]
  split <;> simp [leadP, rotP] <;> omega
theorem map_getD {α β : Type} (f : α → β) (R : List α) (k : Nat) (a : α) (b : β) (h : k < R.length) : (R.map f).getD k b = f (R.getD k a) := by
  rw [List.getD_eq_getElem?_getD, List.getD_eq_getElem?_getD, List.getElem?_map, List.getElem?_eq_getElem h]; rfl
set_option maxRecDepth 100000 in
set_option maxHeartbeats 2000000 in
theorem normal_any (ao : Option Addr) (n cap : Nat) (R : List (List Pt)) (w : World) (h : IsRings w ao n cap R) (hok : ∀ r ∈ R, (ringCheckP r).1 = 0) (hn : n ≤ 100000) :
    Calls Tryz.prog 14 #[.agg #[.slice ao n cap]] w fun e w' => ∃ v X, e = .returned v ∧ OwnR w' w.heap.size v X ∧ X.Perm (R.map normQ) ∧ SortedR X ∧ Below w.heap.size w w' := by
  have HI := Lib.hid h
  have HK := Lib.hid hok
  have hcm := h.2.2.1
  have hnc := h.2.1
  have HL := Lib.hid h.1
  unfold maxLen at hcm
  obtain ⟨W0, hW0⟩ : ∃ W, W = w.alloc (.cells #[.slice ao n cap] 24) := ⟨_, rfl⟩
  have hg0 : Below w.heap.size w W0 := by rw [hW0]; exact (Below.refl _ _).alloc (Nat.le_refl _) _
  have c0 : W0.cell? ⟨w.heap.size, 0, none⟩ = some (.slice ao n cap) := by rw [hW0]; exact alloc_cell _ _ _
  have H0 := Lib.hid hg0
  rw [hW0] at c0
  clear h hok hg0
  go_enter Tryz.func14, Tryz.ntmps14
  go_wp2_with fail
  rw [← hW0]
  clear hW0 c0
  go_loopw [3, 11] (fun v i wr => ∃ k : Nat, k ≤ n ∧ i = .int .i64 k ∧ Hid (OwnR wr W0.heap.size v ((R.take k).map normQ)) ∧ Hid (Below W0.heap.size W0 wr)) (fun _ i _ => n - (intOf i).toNat)
  case atStart => exact ⟨0, by omega, rfl, OwnR.nil _ _, Below.refl _ _⟩
  case round =>
    obtain ⟨k, hk, rfl, hown, hbl⟩ := hrel
    by_cases hlt : k < n
    · have hi0 : (0 : Int) ≤ (k : Int) := by omega
      have hi5 : (k : Int) < (n : Int) := by omega
      obtain ⟨b, off, x, y, z, rfl, e0, hp⟩ := ((HI.out.later H0.out (Nat.le_refl _)).later hbl.out (Nat.le_refl _)).2.2.2.2 k hlt
      have hmem : R.getD k [] ∈ R := by rw [List.getD_eq_getElem?_getD, List.getElem?_eq_getElem (by rw [HL.out]; exact hlt)]; exact List.getElem_mem _
      have HN := Lib.hid (Normal_any x y z (R.getD k []) wr hp (HK.out _ hmem))
      have HT : Hid ((R.take (k + 1)).map normQ = (R.take k).map normQ ++ [normQ (R.getD k [])]) := Lib.hid (by rw [take_moreR (by rw [HL.out]; exact hlt), List.map_append]; rfl)
      have HTL : Hid (((R.take k).map normQ).length ≤ 4294967296) := Lib.hid (by rw [List.length_map, List.length_take]; omega)
      obtain ⟨X, hX⟩ : ∃ X, X = (R.take k).map normQ := ⟨_, rfl⟩
      obtain ⟨Y, hY⟩ : ∃ Y, Y = normQ (R.getD k []) := ⟨_, rfl⟩
      rw [← hX] at hown HT HTL
      rw [← hY] at HN HT
      clear hp hmem hX hY
      go_wp2_with fail
      refine HN.out.mono ?_
      rintro e w2 ⟨v2, rfl, ho2, hb2⟩
      obtain ⟨a2, c2, hv2, _⟩ := ho2.pts
      subst hv2
      have H2 := Lib.hid (And.intro ho2 hb2)
      clear ho2 hb2 e0
      go_wp2_with (
        at_builtin
        refine wpList_append_rings rfl _ _ rfl W0.heap.size _ X rfl (hown.out.later (H2.out.2.alloc H2.out.2.size _)) w2.heap.size rfl a2 c2 Y ((H2.out.1.later ((Below.refl _ _).alloc (Nat.le_refl _) _)).base hbl.out.size) (alloc_new _ _) HTL.out (Nat.le_trans hbl.out.size (Nat.le_trans H2.out.2.size (by simp))) ?_
        intro v7 w7 hown7 hg7
        have H7 := Lib.hid (And.intro hown7 ((hbl.out.trans ((H2.out.2.alloc H2.out.2.size _).mono hbl.out.size)).grown hg7 (Nat.le_trans hbl.out.size (Nat.le_trans H2.out.2.size (by simp))) (fun k hk => (hown.out.lt k hk).1)))
        clear hown7 hg7)
      go_roundw
      case rel => exact ⟨k + 1, by omega, by go_num, Lib.hid (by rw [HT.out]; exact H7.out.1), Lib.hid H7.out.2⟩
      case measure => simp [intOf]; omega
    · have hkn : n = k := by omega
      subst hkn
      have hown2 := hown.out
      rw [List.take_of_length_le (by rw [HL.out]; exact Nat.le_refl _)] at hown2
      obtain ⟨a7, c7, hv7, _⟩ := hown2.rings
      rw [List.length_map, HL.out] at hv7
      subst hv7
      have HSO := Lib.hid (SortR_any W0.heap.size _ (R.map normQ) wr hown2 hbl.out.size (by rw [List.length_map, HL.out]; exact hn))
      have HB := Lib.hid (H0.out.trans (hbl.out.mono H0.out.size))
      have HBL := hbl
      clear hown2 hown hbl
      go_wp2_with fail
      refine HSO.out.mono ?_
      rintro e w8 ⟨rfl, X, ho8, hp8, hs8, hb8⟩
      have H8 := Lib.hid (And.intro ho8 (And.intro hp8 (And.intro hs8 hb8)))
      clear ho8 hp8 hs8 hb8
      go_wp2_with fail
      go_ret
      exact ⟨_, X, rfl, H8.out.1.base H0.out.size, H8.out.2.1, H8.out.2.2.1, HB.out.trans (H8.out.2.2.2.mono H0.out.size)⟩
theorem region_rings {P : List (List Pt)} (h : (regionCheckP P).1 = 0) : ∀ r ∈ P, (ringCheckP r).1 = 0 := (region_ok h).2.2.2
set_option maxRecDepth 100000 in
set_option maxHeartbeats 4000000 in
theorem Same_region (ao : Option Addr) (n cap : Nat) (P : List (List Pt)) (bo : Option Addr) (m cap2 : Nat) (Q : List (List Pt)) (w : World) (h : IsRings w ao n cap P) (h2 : IsRings w bo m cap2 Q) (hsP : sumLen P ≤ 1000000000000) (hsQ : sumLen Q ≤ 1000000000000) :
    Calls Tryz.prog 6 #[.agg #[.slice ao n cap], .agg #[.slice bo m cap2]] w fun e w' => e = .returned (.bool (regionSameP P Q)) ∧ Below w.heap.size w w' := by
  have HI := Lib.hid h
  have HJ := Lib.hid h2
  have HL := Lib.hid h.1
  have HL2 := Lib.hid h2.1
  obtain ⟨W, hW⟩ : ∃ W, W = (w.alloc (.cells #[.slice ao n cap] 24)).alloc (.cells #[.slice bo m cap2] 24) := ⟨_, rfl⟩
  have a0 : W.heap[w.heap.size]? = some (.cells #[.slice ao n cap] 24 (0, 0)) := by rw [hW]; exact (Below.heap_alloc _ _ _ (by simp)).trans (alloc_new _ _)
  have a1 : W.heap[w.heap.size + 1]? = some (.cells #[.slice bo m cap2] 24 (0, 0)) := by rw [hW]; exact alloc_new2 _ _ _
  have hs0 : W.heap.size = w.heap.size + 2 := by rw [hW]; simp
  have hg0 : Below w.heap.size w W := by rw [hW]; exact ((Below.refl _ _).alloc (Nat.le_refl _) _).alloc (by simp) _
  have H0 := Lib.hid (And.intro hs0 hg0)
  have HC : Hid (∀ wX, Below W.heap.size W wX → wX.cell? ⟨w.heap.size, 0, none⟩ = some (.slice ao n cap) ∧ wX.cell? ⟨w.heap.size + 1, 0, none⟩ = some (.slice bo m cap2)) := Lib.hid (fun wX hX => by
    have q0 := (hX.block _ (heap_lt' a0)).trans a0
    have q1 := (hX.block _ (heap_lt' a1)).trans a1
    exact ⟨cell_of_row _ _ _ _ _ _ q0, cell_of_row _ _ _ _ _ _ q1⟩)
  obtain ⟨c0, c1⟩ := HC.out W (Below.refl _ _)
  rw [hW] at c0 c1
  have HCP : Hid (∀ wX, Below w.heap.size w wX → _) := Lib.hid (fun wX hX => Check_region ao n cap P wX (h.later hX (Nat.le_refl _)) hsP)
  have HCQ : Hid (∀ wX, Below w.heap.size w wX → _) := Lib.hid (fun wX hX => Check_region bo m cap2 Q wX (h2.later hX (Nat.le_refl _)) hsQ)
  obtain ⟨r, hr⟩ : ∃ r, r = regionSameP P Q := ⟨_, rfl⟩
  rw [← hr]
  have HR := Lib.hid hr
  obtain ⟨fp, hfp⟩ : ∃ f, f = regionCheckP P := ⟨_, rfl⟩
  obtain ⟨fq, hfq⟩ : ∃ f, f = regionCheckP Q := ⟨_, rfl⟩
  rw [← hfp] at HCP
  rw [← hfq] at HCQ
  have HFP := Lib.hid hfp
  have HFQ := Lib.hid hfq
  obtain ⟨f, fa⟩ := fp
  obtain ⟨g, ga⟩ := fq
  unfold faultV at HCP HCQ
  dsimp only at HCP HCQ
  have hfd := fieldF0
  have hundef : ∀ b, some undef = some (Value.bool b) → False := fun b h => by injection h with h; cases h
  clear h h2 hsP hsQ a0 a1 hs0 hg0 hr hfp hfq
  by_cases hz : f = 0
  · subst hz
    go_enter Tryz.func6, Tryz.ntmps6
    go_wp2_with fail
    rw [← hW]
    clear hW c0 c1
    refine (HCP.out _ H0.out.2).mono ?_
    rintro e w1 ⟨rfl, hb1⟩
    have HB1 := Lib.hid hb1
    obtain ⟨c0, c1⟩ := HC.out w1 hb1
    clear hb1
    go_wp2_with fail
    refine (HCQ.out _ (H0.out.2.trans (HB1.out.mono H0.out.2.size))).mono ?_
    rintro e w2 ⟨rfl, hb2⟩
    have HB12 := Lib.hid (HB1.out.trans (hb2.mono HB1.out.size))
    have HB2 := Lib.hid (H0.out.2.trans (HB12.out.mono H0.out.2.size))
    clear hb2 c0 c1
    by_cases hz2 : g = 0
    · subst hz2
      have HN1 : Hid (∀ wX, Below w2.heap.size w2 wX → _) := Lib.hid (fun wX hX => normal_any ao n cap P wX ((HI.out.later HB2.out (Nat.le_refl _)).later hX (Nat.le_refl _)) (region_rings (by rw [← HFP.out])) (by have := (region_ok (g := P) (by rw [← HFP.out])).2.1; rw [HL.out] at this; omega))
      have HN2 : Hid (∀ wX, Below w2.heap.size w2 wX → _) := Lib.hid (fun wX hX => normal_any bo m cap2 Q wX ((HJ.out.later HB2.out (Nat.le_refl _)).later hX (Nat.le_refl _)) (region_rings (by rw [← HFQ.out])) (by have := (region_ok (g := Q) (by rw [← HFQ.out])).2.1; rw [HL2.out] at this; omega))
      have HRL : Hid (∀ X X2 : List (List Pt), X.Perm (P.map normQ) → X2.Perm (Q.map normQ) → SortedR X → SortedR X2 → decide (X = X2) = r) := Lib.hid (fun X X2 h1 h2 h3 h4 => by rw [HR.out]; exact regions_same (by rw [← HFP.out]) (by rw [← HFQ.out]) h1 h2 h3 h4)
      have HCELLS : Hid (∀ wX, Below w2.heap.size w2 wX → wX.cell? ⟨w.heap.size, 0, none⟩ = some (.slice ao n cap) ∧ wX.cell? ⟨w.heap.size + 1, 0, none⟩ = some (.slice bo m cap2)) := Lib.hid (fun wX hX => HC.out wX (HB12.out.trans (hX.mono HB12.out.size)))
      go_wp2_with fail
      have HOK : ∀ f ∈ ([⟨1, fun v w => ∃ x y z X, v = .slice x y z ∧ IsRings w x y z X ∧ X.Perm (P.map normQ) ∧ SortedR X⟩, ⟨3, fun v w => ∃ x y z X, v = .slice x y z ∧ IsRings w x y z X ∧ X.Perm (Q.map normQ) ∧ SortedR X⟩] : List Fct), FctOk f := by
        intro f hf
        simp only [List.mem_cons, List.not_mem_nil, or_false] at hf
        rcases hf with rfl | rfl
        · exact fun v w w' ⟨x, y, z, X, h1, h2, h3, h4⟩ hb => ⟨x, y, z, X, h1, h2.later hb (Nat.le_refl _), h3, h4⟩
        · exact fun v w w' ⟨x, y, z, X, h1, h2, h3, h4⟩ hb => ⟨x, y, z, X, h1, h2.later hb (Nat.le_refl _), h3, h4⟩
      refine wp_region_J (s := [(15, 0), (16, 1), (17, 2), (18, 3), (19, 4), (4, 5)]) (by kernel_rfl) (GrowJ w2 (fun iX => match iX with | 0 => some (.agg #[.slice ao n cap]) | 2 => some (.agg #[.slice bo m cap2]) | 4 => some (.bool r) | 5 => some (.bool r) | _ => none) [⟨1, fun v w => ∃ x y z X, v = .slice x y z ∧ IsRings w x y z X ∧ X.Perm (P.map normQ) ∧ SortedR X⟩, ⟨3, fun v w => ∃ x y z X, v = .slice x y z ∧ IsRings w x y z X ∧ X.Perm (Q.map normQ) ∧ SortedR X⟩]) (by kernel_rfl) (by kernel_rfl) (by kernel_rfl) (by kernel_rfl) (fun _ => undef) ?start3 ?step3 ?done3
      case start3 => exact GrowJ.start ((Below.refl _ _).drew)
      case step3 =>
        refine ⟨?o3_0, ?o3_1, ?o3_2, ?o3_3, ?o3_4, ?o3_5, trivial⟩
        case o3_0 =>
          intro LX V aX wX K hl hp hcl hf hJ hK
          have t2 : aX.tmps[2]? = some (.pointer (some ⟨w.heap.size, 0, none⟩)) := hf.old (by kernel_rfl) rfl
          obtain ⟨c0, c1⟩ := HCELLS.out wX hJ.below
          rw [if_pos (by rfl)]
          go_simp
          exact hK _ _ (hJ.val HOK 0 _ (by kernel_rfl) rfl (Below.refl _ _))
        case o3_1 =>
          intro LX V aX wX K hl hp hcl hf hJ hK
          have t15 := hf.in (i := 0) (d := 15) (by kernel_rfl) (hp 0 (by kernel_rfl)) (hJ.vals 0 _ rfl (hp 0 (by kernel_rfl)))
          rw [if_pos (by rfl)]
          go_simp
          refine (HN1.out _ hJ.below).mono ?_
          rintro e wA ⟨v, X, rfl, ho, hp, hs, hb⟩
          obtain ⟨x, z, hv, hr⟩ := ho.rings
          exact hK _ _ (hJ.step HOK 1 _ trivial (hb) (by
            intro f hf hfi
            simp only [List.mem_cons, List.not_mem_nil, or_false] at hf
            rcases hf with rfl | rfl
            · exact ⟨x, _, z, X, hv, hr, hp, hs⟩
            · exact absurd (show (3 : Nat) = 1 from hfi) (by decide)
            ))
        case o3_2 =>
          intro LX V aX wX K hl hp hcl hf hJ hK
          have t3 : aX.tmps[3]? = some (.pointer (some ⟨(w.heap.size + 1), 0, none⟩)) := hf.old (by kernel_rfl) rfl
          obtain ⟨c0, c1⟩ := HCELLS.out wX hJ.below
          rw [if_pos (by rfl)]
          go_simp
          exact hK _ _ (hJ.val HOK 2 _ (by kernel_rfl) rfl (Below.refl _ _))
        case o3_3 =>
          intro LX V aX wX K hl hp hcl hf hJ hK
          have t17 := hf.in (i := 2) (d := 17) (by kernel_rfl) (hp 2 (by kernel_rfl)) (hJ.vals 2 _ rfl (hp 2 (by kernel_rfl)))
          rw [if_pos (by rfl)]
          go_simp
          refine (HN2.out _ hJ.below).mono ?_
          rintro e wA ⟨v, X, rfl, ho, hp, hs, hb⟩
          obtain ⟨x, z, hv, hr⟩ := ho.rings
          exact hK _ _ (hJ.step HOK 3 _ trivial (hb) (by
            intro f hf hfi
            simp only [List.mem_cons, List.not_mem_nil, or_false] at hf
            rcases hf with rfl | rfl
            · exact absurd (show (1 : Nat) = 3 from hfi) (by decide)
            · exact ⟨x, _, z, X, hv, hr, hp, hs⟩
            ))
        case o3_4 =>
          intro LX V aX wX K hl hp hcl hf hJ hK
          have t16 := hf.in (i := 1) (d := 16) (by kernel_rfl) (hp 1 (by kernel_rfl)) rfl
          have t18 := hf.in (i := 3) (d := 18) (by kernel_rfl) (hp 3 (by kernel_rfl)) rfl
          have q0 := hJ.facts ⟨1, fun v w => ∃ x y z X, v = .slice x y z ∧ IsRings w x y z X ∧ X.Perm (P.map normQ) ∧ SortedR X⟩ (List.mem_of_getElem? (i := 0) rfl) (hp 1 (by kernel_rfl))
          have q1 := hJ.facts ⟨3, fun v w => ∃ x y z X, v = .slice x y z ∧ IsRings w x y z X ∧ X.Perm (Q.map normQ) ∧ SortedR X⟩ (List.mem_of_getElem? (i := 1) rfl) (hp 3 (by kernel_rfl))
          obtain ⟨x, y, z, X, hv1, hr1, hp1, hs1⟩ := q0
          obtain ⟨x2, y2, z2, X2, hv2, hr2, hp2, hs2⟩ := q1
          rw [hv1] at t16
          rw [hv2] at t18
          rw [if_pos (by rfl)]
          go_simp
          have he := EqualFunc_any x y z X x2 y2 z2 X2 wX hr1 hr2
          rw [HRL.out X X2 hp1 hp2 hs1 hs2] at he
          refine he.mono ?_
          rintro e wA ⟨rfl, hgA⟩
          exact hK _ _ (hJ.val HOK 4 _ (by kernel_rfl) rfl (hgA.1))
        case o3_5 =>
          intro LX V aX wX K hl hp hcl hf hJ hK
          have t19 := hf.in (i := 4) (d := 19) (by kernel_rfl) (hp 4 (by kernel_rfl)) (hJ.vals 4 _ rfl (hp 4 (by kernel_rfl)))
          rw [if_pos (by rfl)]
          go_simp
          exact hK _ _ (hJ.val HOK 5 _ (by kernel_rfl) rfl (Below.refl _ _))
      intro V wZ hJ
      have hv := hJ.vals 5 _ rfl (by kernel_rfl)
      have HBZ := Lib.hid hJ.below
      simp only [puts, Act.put, List.setIfInBounds_toArray, List.set_cons_zero, List.set_cons_succ]
      rw [hv]
      clear hJ hv HOK
      go_wp2_with fail
      go_ret
      exact ⟨rfl, HB2.out.trans (HBZ.out.mono HB2.out.size)⟩
    · have hzz : (g == 0) = false := by simp [hz2]
      have hzz2 : (g != 0) = true := by simp [hz2]
      have hr0 : Hid (r = false) := Lib.hid (by rw [HR.out]; unfold regionSameP; rw [← HFP.out, ← HFQ.out, decide_eq_false (show ¬ g = 0 from hz2)]; simp)
      clear hz2
      go_wp2_with fail
      go_ret
      exact ⟨by rw [hr0.out]; rfl, HB2.out⟩
  · have hzz : (f == 0) = false := by simp [hz]
    have hzz2 : (f != 0) = true := by simp [hz]
    have hr0 : Hid (r = false) := Lib.hid (by rw [HR.out]; unfold regionSameP; rw [← HFP.out, decide_eq_false (show ¬ f = 0 from hz)]; simp)
    clear hz
    go_enter Tryz.func6, Tryz.ntmps6
    go_wp2_with fail
    rw [← hW]
    clear hW c0 c1
    refine (HCP.out _ H0.out.2).mono ?_
    rintro e w1 ⟨rfl, hb1⟩
    have HB1 := Lib.hid hb1
    clear hb1
    go_wp2_with fail
    all_goals first
      | (exfalso; exact hundef _ (by assumption))
      | (go_ret; exact ⟨by rw [hr0.out]; rfl, H0.out.2.trans (HB1.out.mono H0.out.2.size)⟩)
end Go.Proofs.YtgijaaklhdcgeaaGreat
