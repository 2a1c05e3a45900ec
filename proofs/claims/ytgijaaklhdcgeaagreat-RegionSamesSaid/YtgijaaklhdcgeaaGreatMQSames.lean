/- RegionSames: the walk (printed by mksames.py) -/
import Derived.Test.YtgijaaklhdcgeaaGreatMR16
import Derived.Test.YtgijaaklhdcgeaaGreatMQSame2
import Derived.Test.YtgijaaklhdcgeaaGreatMQRegIn
import Derived.Test.YtgijaaklhdcgeaaGreatMRegX
set_option linter.unusedSimpArgs false
set_option linter.unusedVariables false
namespace Go.Proofs.YtgijaaklhdcgeaaGreat
open Go.RowKit Go.Geo
attribute [local go_sem] Oper.semAt_some
theorem OwnR.keepsBut {w w' : World} {base : Nat} {v : Value} {R : List (List Pt)} (h : OwnR w base v R) (hk : KeepsBut [24] w w') : OwnR w' base v R :=
  h.move fun g c t hg ht => by
    refine (hk.2 _ _ hg ?_).trans hg.symm
    intro c' t' f' e
    injection e with _ e2
    subst e2
    rcases ht with rfl | rfl
    · decide
    · decide
set_option maxRecDepth 100000 in
set_option maxHeartbeats 8000000 in
theorem RegionSames_any (ao : Option Addr) (n cap : Nat) (P : List (List Pt)) (bo : Option Addr) (m cap2 : Nat) (Q : List (List Pt)) (w : World) (h : IsRings w ao n cap P) (h2 : IsRings w bo m cap2 Q) (hkP : Kept P) (hkQ : Kept Q) :
    Calls Tryz.prog 3 #[.agg #[.slice ao n cap], .agg #[.slice bo m cap2]] w fun e w' => e = .returned (.bool true) ∧ Below w.heap.size w w' := by
  have HI := Lib.hid h
  have HJ := Lib.hid h2
  have HL := Lib.hid h.1
  have HL2 := Lib.hid h2.1
  have HAW0 := Lib.hid awake_any
  obtain ⟨W, hW⟩ : ∃ W, W = (w.alloc (.cells #[.slice ao n cap] 24)).alloc (.cells #[.slice bo m cap2] 24) := ⟨_, rfl⟩
  have a0 : W.heap[w.heap.size]? = some (.cells #[.slice ao n cap] 24 (0, 0)) := by rw [hW]; exact (Below.heap_alloc _ _ _ (by simp)).trans (alloc_new _ _)
  have a1 : W.heap[w.heap.size + 1]? = some (.cells #[.slice bo m cap2] 24 (0, 0)) := by rw [hW]; exact alloc_new2 _ _ _
  have hs0 : W.heap.size = w.heap.size + 2 := by rw [hW]; simp
  have hg0 : Below w.heap.size w W := by rw [hW]; exact ((Below.refl _ _).alloc (Nat.le_refl _) _).alloc (by simp) _
  have H0 := Lib.hid (And.intro hs0 hg0)
  have HC : Hid (∀ wX, Below W.heap.size W wX → wX.cell? ⟨w.heap.size, 0, none⟩ = some (.slice ao n cap) ∧ wX.cell? ⟨w.heap.size + 1, 0, none⟩ = some (.slice bo m cap2)) := Lib.hid (fun wX hX => by
    have q0 := (hX.block _ (heap_lt' a0)).trans a0
    have q1 := (hX.block _ (heap_lt' a1)).trans a1
    exact ⟨cell_of_row _ _ _ _ _ _ q0, cell_of_row _ _ _ _ _ _ q1⟩)
  obtain ⟨c0, c1⟩ := HC.out W (Below.refl _ _)
  rw [hW] at c0 c1
  have HBP := Lib.hid (bigLaw_any ao n cap P W (h.later hg0 (Nat.le_refl _)) hkP)
  have HBQ : Hid (∀ wX, Below w.heap.size w wX → _) := Lib.hid (fun wX hX => bigLaw_any bo m cap2 Q wX (h2.later hX (Nat.le_refl _)) hkQ)
  obtain ⟨bp, hbp⟩ : ∃ q, q = largeR P 30 450 := ⟨_, rfl⟩
  obtain ⟨bq, hbq⟩ : ∃ q, q = largeR Q 30 450 := ⟨_, rfl⟩
  rw [← hbp] at HBP
  rw [← hbq] at HBQ
  have HLP := Lib.hid hbp
  have HLQ := Lib.hid hbq
  clear h h2 hkP hkQ a0 a1 hs0 hg0 hbp hbq
  go_enter Tryz.func3, Tryz.ntmps3
  go_wp2_with fail
  rw [← hW]
  clear hW c0 c1
  refine HBP.out.mono ?_
  rintro e w1 ⟨rfl, hb1⟩
  have HB1 := Lib.hid hb1
  obtain ⟨c0, c1⟩ := HC.out w1 hb1
  clear hb1
  cases bp with
  | true =>
    go_wp2_with fail
    go_ret
    exact ⟨rfl, H0.out.2.trans (HB1.out.mono H0.out.2.size)⟩
  | false =>
    go_wp2_with fail
    refine (HBQ.out _ (H0.out.2.trans (HB1.out.mono H0.out.2.size))).mono ?_
    rintro e W1 ⟨rfl, hb2⟩
    have HB2 := Lib.hid (HB1.out.trans (hb2.mono HB1.out.size))
    clear hb2 c0 c1
    cases bq with
    | true =>
      go_wp2_with fail
      go_ret
      exact ⟨rfl, H0.out.2.trans (HB2.out.mono H0.out.2.size)⟩
    | false =>
      have hsmall : ∀ R : List (List Pt), false = largeR R 30 450 → Small R ∧ sumLen R ≤ 1000000000000 := fun R h => by
        unfold largeR at h
        have h1 : ¬ (30 < R.length) := fun h1 => by rw [decide_eq_true h1] at h; cases h
        have h2 : ¬ (450 < sumLen R) := fun h1 => by rw [decide_eq_true h1, Bool.or_true] at h; cases h
        exact ⟨⟨by omega, fun k hk => by have := sumLen_get hk; omega⟩, by omega⟩
      have hP := hsmall P HLP.out
      have hQ := hsmall Q HLQ.out
      have hw1 := H0.out.2.trans (HB2.out.mono H0.out.2.size)
      have HOP : Hid (∀ wX, Below W1.heap.size W1 wX → _) := Lib.hid (fun wX hX => OwnRegion_any ao n cap P wX ((HI.out.later hw1 (Nat.le_refl _)).later hX (Nat.le_refl _)) hP.1)
      have HOQ : Hid (∀ wX, Below W1.heap.size W1 wX → _) := Lib.hid (fun wX hX => OwnRegion_any bo m cap2 Q wX ((HJ.out.later hw1 (Nat.le_refl _)).later hX (Nat.le_refl _)) hQ.1)
      have HC2 : Hid (∀ wX, Below W1.heap.size W1 wX → wX.cell? ⟨w.heap.size, 0, none⟩ = some (.slice ao n cap) ∧ wX.cell? ⟨w.heap.size + 1, 0, none⟩ = some (.slice bo m cap2)) := Lib.hid (fun wX hX => HC.out wX (HB2.out.trans (hX.mono HB2.out.size)))
      have HSS := Lib.hid (And.intro hP hQ)
      have HW1 := Lib.hid hw1
      clear hsmall hP hQ hw1
      go_wp2_with fail
      have HOK : ∀ f ∈ ([⟨1, fun v w => ∃ u, v = .agg #[u] ∧ OwnR w W1.heap.size u P⟩, ⟨3, fun v w => ∃ u, v = .agg #[u] ∧ OwnR w W1.heap.size u Q⟩] : List Fct), FctKeep [24] f := by
        intro f hf
        simp only [List.mem_cons, List.not_mem_nil, or_false] at hf
        rcases hf with rfl | rfl
        · exact fun v w w' ⟨u, h1, h2⟩ hk => ⟨u, h1, OwnR.keepsBut h2 hk⟩
        · exact fun v w w' ⟨u, h1, h2⟩ hk => ⟨u, h1, OwnR.keepsBut h2 hk⟩
      refine wp_region_J (s := [(13, 0), (14, 1), (15, 2), (16, 3), (5, 4), (6, 5)]) (by kernel_rfl) (MixJ W1 (fun iX => match iX with | 0 => some (.agg #[.slice ao n cap]) | 2 => some (.agg #[.slice bo m cap2]) | _ => none) [⟨1, fun v w => ∃ u, v = .agg #[u] ∧ OwnR w W1.heap.size u P⟩, ⟨3, fun v w => ∃ u, v = .agg #[u] ∧ OwnR w W1.heap.size u Q⟩] [⟨4, 6, 1, 24, #[.slice none 0 0], Value.cells⟩, ⟨5, 7, 3, 24, #[.slice none 0 0], Value.cells⟩]) (by kernel_rfl) (by kernel_rfl) (by kernel_rfl) (by kernel_rfl) (fun _ => undef) ?start3 ?step3 ?done3
      case start3 => exact MixJ.start ((Below.refl _ _).drew)
      case step3 =>
        refine ⟨?o3_0, ?o3_1, ?o3_2, ?o3_3, ?o3_4, ?o3_5, ?o3_6, ?o3_7, trivial⟩
        case o3_0 =>
          intro LX V aX wX K hl hp hcl hf hJ hK
          have t2 : aX.tmps[2]? = some (.pointer (some ⟨w.heap.size, 0, none⟩)) := hf.old (by kernel_rfl) rfl
          obtain ⟨c0, c1⟩ := HC2.out wX hJ.below
          rw [if_pos (by rfl)]
          go_simp
          exact hK _ _ (hJ.val HOK 0 _ hl (Below.refl _ _) (by kernel_rfl) (by kernel_rfl) rfl)
        case o3_1 =>
          intro LX V aX wX K hl hp hcl hf hJ hK
          have t13 := hf.in (i := 0) (d := 13) (by kernel_rfl) (hp 0 (by kernel_rfl)) (hJ.vals 0 _ rfl (hp 0 (by kernel_rfl)))
          rw [if_pos (by rfl)]
          go_simp
          refine (HOP.out _ hJ.below).mono ?_
          rintro e wA ⟨u, rfl, ho, hb⟩
          exact hK _ _ (hJ.step HOK 1 _ hl (hb) (by kernel_rfl) trivial (by
            intro f hf hfi
            simp only [List.mem_cons, List.not_mem_nil, or_false] at hf
            rcases hf with rfl | rfl
            · exact ⟨u, rfl, ho.base hJ.below.size⟩
            · exact absurd (show (3 : Nat) = 1 from hfi) (by decide)
            ))
        case o3_2 =>
          intro LX V aX wX K hl hp hcl hf hJ hK
          have t3 : aX.tmps[3]? = some (.pointer (some ⟨(w.heap.size + 1), 0, none⟩)) := hf.old (by kernel_rfl) rfl
          obtain ⟨c0, c1⟩ := HC2.out wX hJ.below
          rw [if_pos (by rfl)]
          go_simp
          exact hK _ _ (hJ.val HOK 2 _ hl (Below.refl _ _) (by kernel_rfl) (by kernel_rfl) rfl)
        case o3_3 =>
          intro LX V aX wX K hl hp hcl hf hJ hK
          have t15 := hf.in (i := 2) (d := 15) (by kernel_rfl) (hp 2 (by kernel_rfl)) (hJ.vals 2 _ rfl (hp 2 (by kernel_rfl)))
          rw [if_pos (by rfl)]
          go_simp
          refine (HOQ.out _ hJ.below).mono ?_
          rintro e wA ⟨u, rfl, ho, hb⟩
          exact hK _ _ (hJ.step HOK 3 _ hl (hb) (by kernel_rfl) trivial (by
            intro f hf hfi
            simp only [List.mem_cons, List.not_mem_nil, or_false] at hf
            rcases hf with rfl | rfl
            · exact absurd (show (1 : Nat) = 3 from hfi) (by decide)
            · exact ⟨u, rfl, ho.base hJ.below.size⟩
            ))
        case o3_4 =>
          intro LX V aX wX K hl hp hcl hf hJ hK
          rw [if_pos (by rfl)]
          go_simp
          exact hK _ _ (hJ.alloc HOK (by kernel_rfl) ⟨4, 6, 1, 24, #[.slice none 0 0], Value.cells⟩ (List.mem_of_getElem? (i := 0) rfl) hl rfl (by kernel_rfl))
        case o3_5 =>
          intro LX V aX wX K hl hp hcl hf hJ hK
          rw [if_pos (by rfl)]
          go_simp
          exact hK _ _ (hJ.alloc HOK (by kernel_rfl) ⟨5, 7, 3, 24, #[.slice none 0 0], Value.cells⟩ (List.mem_of_getElem? (i := 1) rfl) hl rfl (by kernel_rfl))
        case o3_6 =>
          intro LX V aX wX K hl hp hcl hf hJ hK
          have t5 := hf.in (i := 4) (d := 5) (by kernel_rfl) (hp 4 (by kernel_rfl)) rfl
          have t14 := hf.in (i := 1) (d := 14) (by kernel_rfl) (hp 1 (by kernel_rfl)) rfl
          have q0 := hJ.facts ⟨1, fun v w => ∃ u, v = .agg #[u] ∧ OwnR w W1.heap.size u P⟩ (List.mem_of_getElem? (i := 0) rfl) (hp 1 (by kernel_rfl))
          obtain ⟨u, hu, hou⟩ := q0
          obtain ⟨xu, zu, hvu, _⟩ := hou.rings
          subst hvu
          rw [if_pos (by rfl)]
          obtain ⟨gS, hgS, hgS2⟩ := hJ.ptr ⟨4, 6, 1, 24, #[.slice none 0 0], Value.cells⟩ (List.mem_of_getElem? (i := 0) rfl) (hp 4 (by kernel_rfl)) hl
          have tp := hf.in (i := 4) (d := 5) (by kernel_rfl) (hp 4 (by kernel_rfl)) hgS
          have hcs : (Value.cells) (V 1) = #[.slice xu P.length zu] := by rw [hu]; rfl
          have hfill := hJ.fill HOK (by kernel_rfl) ⟨4, 6, 1, 24, #[.slice none 0 0], Value.cells⟩ (List.mem_of_getElem? (i := 0) rfl) (by simp) (hp 4 (by kernel_rfl)) hl (hp 1 (by kernel_rfl)) rfl (by kernel_rfl) gS hgS undef
          simp only at hfill hcs
          rw [hcs] at hfill
          refine wp_store_row _ _ _ rfl gS #[.slice xu P.length zu] (by simp [Act.eval, tp]) (by simp [Act.eval, t14, hu]) _ _ hgS2 (by kernel_rfl) rfl (by kernel_rfl) ?_
          exact hK _ _ hfill
        case o3_7 =>
          intro LX V aX wX K hl hp hcl hf hJ hK
          have t6 := hf.in (i := 5) (d := 6) (by kernel_rfl) (hp 5 (by kernel_rfl)) rfl
          have t16 := hf.in (i := 3) (d := 16) (by kernel_rfl) (hp 3 (by kernel_rfl)) rfl
          have q1 := hJ.facts ⟨3, fun v w => ∃ u, v = .agg #[u] ∧ OwnR w W1.heap.size u Q⟩ (List.mem_of_getElem? (i := 1) rfl) (hp 3 (by kernel_rfl))
          obtain ⟨u, hu, hou⟩ := q1
          obtain ⟨xu, zu, hvu, _⟩ := hou.rings
          subst hvu
          rw [if_pos (by rfl)]
          obtain ⟨gS, hgS, hgS2⟩ := hJ.ptr ⟨5, 7, 3, 24, #[.slice none 0 0], Value.cells⟩ (List.mem_of_getElem? (i := 1) rfl) (hp 5 (by kernel_rfl)) hl
          have tp := hf.in (i := 5) (d := 6) (by kernel_rfl) (hp 5 (by kernel_rfl)) hgS
          have hcs : (Value.cells) (V 3) = #[.slice xu Q.length zu] := by rw [hu]; rfl
          have hfill := hJ.fill HOK (by kernel_rfl) ⟨5, 7, 3, 24, #[.slice none 0 0], Value.cells⟩ (List.mem_of_getElem? (i := 1) rfl) (by simp) (hp 5 (by kernel_rfl)) hl (hp 3 (by kernel_rfl)) rfl (by kernel_rfl) gS hgS undef
          simp only at hfill hcs
          rw [hcs] at hfill
          refine wp_store_row _ _ _ rfl gS #[.slice xu Q.length zu] (by simp [Act.eval, tp]) (by simp [Act.eval, t16, hu]) _ _ hgS2 (by kernel_rfl) rfl (by kernel_rfl) ?_
          exact hK _ _ hfill
      intro V wZ hJ
      have qa := hJ.facts ⟨1, fun v w => ∃ u, v = .agg #[u] ∧ OwnR w W1.heap.size u P⟩ (List.mem_of_getElem? (i := 0) rfl) (by kernel_rfl)
      have qb := hJ.facts ⟨3, fun v w => ∃ u, v = .agg #[u] ∧ OwnR w W1.heap.size u Q⟩ (List.mem_of_getElem? (i := 1) rfl) (by kernel_rfl)
      obtain ⟨g5, hv5, hg5, hh5⟩ := hJ.got ⟨4, 6, 1, 24, #[.slice none 0 0], Value.cells⟩ (List.mem_of_getElem? (i := 0) rfl) (by kernel_rfl) (by kernel_rfl)
      obtain ⟨g6, hv6, hg6, hh6⟩ := hJ.got ⟨5, 7, 3, 24, #[.slice none 0 0], Value.cells⟩ (List.mem_of_getElem? (i := 1) rfl) (by kernel_rfl) (by kernel_rfl)
      obtain ⟨ua, hva, hoa⟩ := qa
      obtain ⟨ub, hvb, hob⟩ := qb
      have HBZ := Lib.hid hJ.below
      simp only at hv5 hh5 hv6 hh6 hva hvb
      have e5 : Value.cells (V 1) = #[ua] := by rw [hva]; rfl
      have e6 : Value.cells (V 3) = #[ub] := by rw [hvb]; rfl
      rw [e5] at hh5
      rw [e6] at hh6
      simp only [puts, Act.put, List.setIfInBounds_toArray, List.set_cons_zero, List.set_cons_succ]
      rw [hv5, hv6, hva, hvb]
      clear hJ HOK hv5 hv6 hva hvb e5 e6
      obtain ⟨ax, cx, hvx, hrx⟩ := hoa.rings
      obtain ⟨ay, cy, hvy, hry⟩ := hob.rings
      rw [HL.out] at hvx hrx
      rw [HL2.out] at hvy hry
      subst hvx
      subst hvy
      obtain ⟨r, hr⟩ : ∃ r, r = regionSameP P Q := ⟨_, rfl⟩
      have hwZ := HW1.out.trans (HBZ.out.mono HW1.out.size)
      have hGP : ∀ wX, Below wZ.heap.size wZ wX → IsRings wX ao n cap P := fun wX hX => (HI.out.later hwZ (Nat.le_refl _)).later hX (Nat.le_refl _)
      have hGQ : ∀ wX, Below wZ.heap.size wZ wX → IsRings wX bo m cap2 Q := fun wX hX => (HJ.out.later hwZ (Nat.le_refl _)).later hX (Nat.le_refl _)
      have hXP : ∀ wX, Below wZ.heap.size wZ wX → IsRings wX ax n cx P := fun wX hX => hrx.later hX (Nat.le_refl _)
      have hYQ : ∀ wX, Below wZ.heap.size wZ wX → IsRings wX ay m cy Q := fun wX hX => hry.later hX (Nat.le_refl _)
      have hSM := fun wX (hX : Below wZ.heap.size wZ wX) => Same_region ax n cx P ay m cy Q wX (hXP wX hX) (hYQ wX hX) HSS.out.1.2 HSS.out.2.2
      have hRS := fun wX (hX : Below wZ.heap.size wZ wX) => rSame_region ao n cap P bo m cap2 Q wX (hGP wX hX) (hGQ wX hX) HSS.out.1.2 HSS.out.2.2
      rw [← hr] at hSM hRS
      have HSM := Lib.hid hSM
      have HRS := Lib.hid hRS
      have HE1 : Hid (∀ wX, Below wZ.heap.size wZ wX → _) := Lib.hid (fun wX hX => EqualRegion_any ax n cx ao cap P wX (hXP wX hX) (hGP wX hX))
      have HE2 : Hid (∀ wX, Below wZ.heap.size wZ wX → _) := Lib.hid (fun wX hX => EqualRegion_any ay m cy bo cap2 Q wX (hYQ wX hX) (hGQ wX hX))
      have HAW : Hid (∀ wX, Below wZ.heap.size wZ wX → _) := Lib.hid (fun wX _ => HAW0.out wX)
      have hC2 := HC2.out
      have HCELLS : Hid (∀ wX, Below wZ.heap.size wZ wX → wX.cell? ⟨w.heap.size, 0, none⟩ = some (.slice ao n cap) ∧ wX.cell? ⟨w.heap.size + 1, 0, none⟩ = some (.slice bo m cap2) ∧ wX.cell? ⟨g5, 0, none⟩ = some (.slice ax n cx) ∧ wX.cell? ⟨g6, 0, none⟩ = some (.slice ay m cy)) := Lib.hid (fun wX hX => by
        obtain ⟨c0, c1⟩ := hC2 wX (HBZ.out.trans (hX.mono HBZ.out.size))
        exact ⟨c0, c1, cell_of_row _ _ _ _ _ _ ((hX.block _ (heap_lt' hh5)).trans hh5), cell_of_row _ _ _ _ _ _ ((hX.block _ (heap_lt' hh6)).trans hh6)⟩)
      have HWZ := Lib.hid hwZ
      clear hSM hRS hGP hGQ hXP hYQ hwZ hr hC2 hh5 hh6 hg5 hg6 hrx hry hoa hob
      go_wp2_with fail
      have HOK : ∀ f ∈ ([] : List Fct), FctOk f := by
        intro f hf; cases hf
      refine wp_region_J (s := [(17, 0), (18, 1), (19, 2), (20, 3), (21, 4), (22, 5), (23, 6), (24, 7), (25, 8), (26, 9), (27, 10), (28, 11), (29, 12), (30, 13), (31, 14), (32, 15), (33, 16), (34, 17), (35, 18), (36, 19), (4, 20)]) (by kernel_rfl) (GrowJ wZ (fun iX => match iX with | 0 => some (.agg #[.slice ax n cx]) | 1 => some (.agg #[.slice ay m cy]) | 2 => some (.bool r) | 3 => some (.agg #[.slice ao n cap]) | 4 => some (.agg #[.slice bo m cap2]) | 5 => some (.bool r) | 6 => some (.bool true) | 7 => some (.bool true) | 8 => some (.agg #[.slice ax n cx]) | 9 => some (.agg #[.slice ao n cap]) | 10 => some (.bool true) | 11 => some (.bool true) | 12 => some (.bool true) | 13 => some (.agg #[.slice ay m cy]) | 14 => some (.agg #[.slice bo m cap2]) | 15 => some (.bool true) | 16 => some (.bool true) | 17 => some (.bool true) | 18 => some (.bool true) | 19 => some (.bool true) | 20 => some (.bool true) | _ => none) []) (by kernel_rfl) (by kernel_rfl) (by kernel_rfl) (by kernel_rfl) (fun _ => undef) ?start4 ?step4 ?done4
      case start4 => exact GrowJ.start ((Below.refl _ _).drew)
      case step4 =>
        refine ⟨?o4_0, ?o4_1, ?o4_2, ?o4_3, ?o4_4, ?o4_5, ?o4_6, ?o4_7, ?o4_8, ?o4_9, ?o4_10, ?o4_11, ?o4_12, ?o4_13, ?o4_14, ?o4_15, ?o4_16, ?o4_17, ?o4_18, ?o4_19, ?o4_20, trivial⟩
        case o4_0 =>
          intro LX V aX wX K hl hp hcl hf hJ hK
          have t5 : aX.tmps[5]? = some (.pointer (some ⟨g5, 0, none⟩)) := hf.old (by kernel_rfl) rfl
          obtain ⟨c0, c1, c2, c3⟩ := HCELLS.out wX hJ.below
          rw [if_pos (by rfl)]
          go_simp
          exact hK _ _ (hJ.val HOK 0 _ (by kernel_rfl) rfl (Below.refl _ _))
        case o4_1 =>
          intro LX V aX wX K hl hp hcl hf hJ hK
          have t6 : aX.tmps[6]? = some (.pointer (some ⟨g6, 0, none⟩)) := hf.old (by kernel_rfl) rfl
          obtain ⟨c0, c1, c2, c3⟩ := HCELLS.out wX hJ.below
          rw [if_pos (by rfl)]
          go_simp
          exact hK _ _ (hJ.val HOK 1 _ (by kernel_rfl) rfl (Below.refl _ _))
        case o4_2 =>
          intro LX V aX wX K hl hp hcl hf hJ hK
          have t17 := hf.in (i := 0) (d := 17) (by kernel_rfl) (hp 0 (by kernel_rfl)) (hJ.vals 0 _ rfl (hp 0 (by kernel_rfl)))
          have t18 := hf.in (i := 1) (d := 18) (by kernel_rfl) (hp 1 (by kernel_rfl)) (hJ.vals 1 _ rfl (hp 1 (by kernel_rfl)))
          rw [if_pos (by rfl)]
          go_simp
          refine (HSM.out _ hJ.below).mono ?_
          rintro e wA ⟨rfl, hbA⟩
          exact hK _ _ (hJ.val HOK 2 _ (by kernel_rfl) rfl (hbA))
        case o4_3 =>
          intro LX V aX wX K hl hp hcl hf hJ hK
          have t2 : aX.tmps[2]? = some (.pointer (some ⟨w.heap.size, 0, none⟩)) := hf.old (by kernel_rfl) rfl
          obtain ⟨c0, c1, c2, c3⟩ := HCELLS.out wX hJ.below
          rw [if_pos (by rfl)]
          go_simp
          exact hK _ _ (hJ.val HOK 3 _ (by kernel_rfl) rfl (Below.refl _ _))
        case o4_4 =>
          intro LX V aX wX K hl hp hcl hf hJ hK
          have t3 : aX.tmps[3]? = some (.pointer (some ⟨(w.heap.size + 1), 0, none⟩)) := hf.old (by kernel_rfl) rfl
          obtain ⟨c0, c1, c2, c3⟩ := HCELLS.out wX hJ.below
          rw [if_pos (by rfl)]
          go_simp
          exact hK _ _ (hJ.val HOK 4 _ (by kernel_rfl) rfl (Below.refl _ _))
        case o4_5 =>
          intro LX V aX wX K hl hp hcl hf hJ hK
          have t20 := hf.in (i := 3) (d := 20) (by kernel_rfl) (hp 3 (by kernel_rfl)) (hJ.vals 3 _ rfl (hp 3 (by kernel_rfl)))
          have t21 := hf.in (i := 4) (d := 21) (by kernel_rfl) (hp 4 (by kernel_rfl)) (hJ.vals 4 _ rfl (hp 4 (by kernel_rfl)))
          rw [if_pos (by rfl)]
          go_simp
          refine (HRS.out _ hJ.below).mono ?_
          rintro e wA ⟨rfl, hbA⟩
          exact hK _ _ (hJ.val HOK 5 _ (by kernel_rfl) rfl (hbA))
        case o4_6 =>
          intro LX V aX wX K hl hp hcl hf hJ hK
          have t19 := hf.in (i := 2) (d := 19) (by kernel_rfl) (hp 2 (by kernel_rfl)) (hJ.vals 2 _ rfl (hp 2 (by kernel_rfl)))
          have t22 := hf.in (i := 5) (d := 22) (by kernel_rfl) (hp 5 (by kernel_rfl)) (hJ.vals 5 _ rfl (hp 5 (by kernel_rfl)))
          have he : (r == r) = true := by simp
          rw [if_pos (by rfl)]
          go_simp
          exact hK _ _ (hJ.val HOK 6 _ (by kernel_rfl) rfl (Below.refl _ _))
        case o4_7 =>
          intro LX V aX wX K hl hp hcl hf hJ hK
          have t23 := hf.in (i := 6) (d := 23) (by kernel_rfl) (hp 6 (by kernel_rfl)) (hJ.vals 6 _ rfl (hp 6 (by kernel_rfl)))
          rw [if_pos (by rfl)]
          go_simp
          exact hK _ _ (hJ.val HOK 7 _ (by kernel_rfl) rfl (Below.refl _ _))
        case o4_8 =>
          intro LX V aX wX K hl hp hcl hf hJ hK
          have t5 : aX.tmps[5]? = some (.pointer (some ⟨g5, 0, none⟩)) := hf.old (by kernel_rfl) rfl
          have t24 := hf.in (i := 7) (d := 24) (by kernel_rfl) (hp 7 (by kernel_rfl)) (hJ.vals 7 _ rfl (hp 7 (by kernel_rfl)))
          obtain ⟨c0, c1, c2, c3⟩ := HCELLS.out wX hJ.below
          rw [if_pos (wanted_of rfl rfl t24)]
          go_simp
          exact hK _ _ (hJ.val HOK 8 _ (by kernel_rfl) rfl (Below.refl _ _))
        case o4_9 =>
          intro LX V aX wX K hl hp hcl hf hJ hK
          have t2 : aX.tmps[2]? = some (.pointer (some ⟨w.heap.size, 0, none⟩)) := hf.old (by kernel_rfl) rfl
          have t24 := hf.in (i := 7) (d := 24) (by kernel_rfl) (hp 7 (by kernel_rfl)) (hJ.vals 7 _ rfl (hp 7 (by kernel_rfl)))
          obtain ⟨c0, c1, c2, c3⟩ := HCELLS.out wX hJ.below
          rw [if_pos (wanted_of rfl rfl t24)]
          go_simp
          exact hK _ _ (hJ.val HOK 9 _ (by kernel_rfl) rfl (Below.refl _ _))
        case o4_10 =>
          intro LX V aX wX K hl hp hcl hf hJ hK
          have t25 := hf.in (i := 8) (d := 25) (by kernel_rfl) (hp 8 (by kernel_rfl)) (hJ.vals 8 _ rfl (hp 8 (by kernel_rfl)))
          have t26 := hf.in (i := 9) (d := 26) (by kernel_rfl) (hp 9 (by kernel_rfl)) (hJ.vals 9 _ rfl (hp 9 (by kernel_rfl)))
          have t24 := hf.in (i := 7) (d := 24) (by kernel_rfl) (hp 7 (by kernel_rfl)) (hJ.vals 7 _ rfl (hp 7 (by kernel_rfl)))
          rw [if_pos (wanted_of rfl rfl t24)]
          go_simp
          refine (HE1.out _ hJ.below).mono ?_
          rintro e wA ⟨rfl, hbA⟩
          exact hK _ _ (hJ.val HOK 10 _ (by kernel_rfl) rfl (hbA))
        case o4_11 =>
          intro LX V aX wX K hl hp hcl hf hJ hK
          have t24 := hf.in (i := 7) (d := 24) (by kernel_rfl) (hp 7 (by kernel_rfl)) (hJ.vals 7 _ rfl (hp 7 (by kernel_rfl)))
          have t27 := hf.in (i := 10) (d := 27) (by kernel_rfl) (hp 10 (by kernel_rfl)) (hJ.vals 10 _ rfl (hp 10 (by kernel_rfl)))
          rw [if_pos (by rfl)]
          go_simp
          exact hK _ _ (hJ.val HOK 11 _ (by kernel_rfl) rfl (Below.refl _ _))
        case o4_12 =>
          intro LX V aX wX K hl hp hcl hf hJ hK
          have t28 := hf.in (i := 11) (d := 28) (by kernel_rfl) (hp 11 (by kernel_rfl)) (hJ.vals 11 _ rfl (hp 11 (by kernel_rfl)))
          rw [if_pos (by rfl)]
          go_simp
          exact hK _ _ (hJ.val HOK 12 _ (by kernel_rfl) rfl (Below.refl _ _))
        case o4_13 =>
          intro LX V aX wX K hl hp hcl hf hJ hK
          have t6 : aX.tmps[6]? = some (.pointer (some ⟨g6, 0, none⟩)) := hf.old (by kernel_rfl) rfl
          have t29 := hf.in (i := 12) (d := 29) (by kernel_rfl) (hp 12 (by kernel_rfl)) (hJ.vals 12 _ rfl (hp 12 (by kernel_rfl)))
          obtain ⟨c0, c1, c2, c3⟩ := HCELLS.out wX hJ.below
          rw [if_pos (wanted_of rfl rfl t29)]
          go_simp
          exact hK _ _ (hJ.val HOK 13 _ (by kernel_rfl) rfl (Below.refl _ _))
        case o4_14 =>
          intro LX V aX wX K hl hp hcl hf hJ hK
          have t3 : aX.tmps[3]? = some (.pointer (some ⟨(w.heap.size + 1), 0, none⟩)) := hf.old (by kernel_rfl) rfl
          have t29 := hf.in (i := 12) (d := 29) (by kernel_rfl) (hp 12 (by kernel_rfl)) (hJ.vals 12 _ rfl (hp 12 (by kernel_rfl)))
          obtain ⟨c0, c1, c2, c3⟩ := HCELLS.out wX hJ.below
          rw [if_pos (wanted_of rfl rfl t29)]
          go_simp
          exact hK _ _ (hJ.val HOK 14 _ (by kernel_rfl) rfl (Below.refl _ _))
        case o4_15 =>
          intro LX V aX wX K hl hp hcl hf hJ hK
          have t30 := hf.in (i := 13) (d := 30) (by kernel_rfl) (hp 13 (by kernel_rfl)) (hJ.vals 13 _ rfl (hp 13 (by kernel_rfl)))
          have t31 := hf.in (i := 14) (d := 31) (by kernel_rfl) (hp 14 (by kernel_rfl)) (hJ.vals 14 _ rfl (hp 14 (by kernel_rfl)))
          have t29 := hf.in (i := 12) (d := 29) (by kernel_rfl) (hp 12 (by kernel_rfl)) (hJ.vals 12 _ rfl (hp 12 (by kernel_rfl)))
          rw [if_pos (wanted_of rfl rfl t29)]
          go_simp
          refine (HE2.out _ hJ.below).mono ?_
          rintro e wA ⟨rfl, hbA⟩
          exact hK _ _ (hJ.val HOK 15 _ (by kernel_rfl) rfl (hbA))
        case o4_16 =>
          intro LX V aX wX K hl hp hcl hf hJ hK
          have t29 := hf.in (i := 12) (d := 29) (by kernel_rfl) (hp 12 (by kernel_rfl)) (hJ.vals 12 _ rfl (hp 12 (by kernel_rfl)))
          have t32 := hf.in (i := 15) (d := 32) (by kernel_rfl) (hp 15 (by kernel_rfl)) (hJ.vals 15 _ rfl (hp 15 (by kernel_rfl)))
          rw [if_pos (by rfl)]
          go_simp
          exact hK _ _ (hJ.val HOK 16 _ (by kernel_rfl) rfl (Below.refl _ _))
        case o4_17 =>
          intro LX V aX wX K hl hp hcl hf hJ hK
          have t33 := hf.in (i := 16) (d := 33) (by kernel_rfl) (hp 16 (by kernel_rfl)) (hJ.vals 16 _ rfl (hp 16 (by kernel_rfl)))
          rw [if_pos (by rfl)]
          go_simp
          exact hK _ _ (hJ.val HOK 17 _ (by kernel_rfl) rfl (Below.refl _ _))
        case o4_18 =>
          intro LX V aX wX K hl hp hcl hf hJ hK
          have t34 := hf.in (i := 17) (d := 34) (by kernel_rfl) (hp 17 (by kernel_rfl)) (hJ.vals 17 _ rfl (hp 17 (by kernel_rfl)))
          rw [if_pos (wanted_of rfl rfl t34)]
          go_simp
          refine (HAW.out _ hJ.below).mono ?_
          rintro e wA ⟨rfl, hbA⟩
          exact hK _ _ (hJ.val HOK 18 _ (by kernel_rfl) rfl (hbA))
        case o4_19 =>
          intro LX V aX wX K hl hp hcl hf hJ hK
          have t34 := hf.in (i := 17) (d := 34) (by kernel_rfl) (hp 17 (by kernel_rfl)) (hJ.vals 17 _ rfl (hp 17 (by kernel_rfl)))
          have t35 := hf.in (i := 18) (d := 35) (by kernel_rfl) (hp 18 (by kernel_rfl)) (hJ.vals 18 _ rfl (hp 18 (by kernel_rfl)))
          rw [if_pos (by rfl)]
          go_simp
          exact hK _ _ (hJ.val HOK 19 _ (by kernel_rfl) rfl (Below.refl _ _))
        case o4_20 =>
          intro LX V aX wX K hl hp hcl hf hJ hK
          have t36 := hf.in (i := 19) (d := 36) (by kernel_rfl) (hp 19 (by kernel_rfl)) (hJ.vals 19 _ rfl (hp 19 (by kernel_rfl)))
          rw [if_pos (by rfl)]
          go_simp
          exact hK _ _ (hJ.val HOK 20 _ (by kernel_rfl) rfl (Below.refl _ _))
      intro V wY hJ
      have hv := hJ.vals 20 _ rfl (by kernel_rfl)
      have HBY := Lib.hid hJ.below
      simp only [puts, Act.put, List.setIfInBounds_toArray, List.set_cons_zero, List.set_cons_succ]
      rw [hv]
      clear hJ hv
      go_wp2_with fail
      go_ret
      exact ⟨rfl, HWZ.out.trans (HBY.out.mono HWZ.out.size)⟩
theorem RegionSames_z {w : World} (g : Rg) (hg : ∃ R, IsRings w g.a g.n g.c R ∧ Kept R) (k : Rg) (hk : ∃ R, IsRings w k.a k.n k.c R ∧ Kept R) :
    Calls Tryz.prog 3 #[g.val, k.val] w fun e w' => e = .returned (.bool true) ∧ Below w.heap.size w w' := by
  obtain ⟨R, hr, hkR⟩ := hg
  obtain ⟨S, hs, hkS⟩ := hk
  exact RegionSames_any _ _ _ R _ _ _ S w hr hs hkR hkS
end Go.Proofs.YtgijaaklhdcgeaaGreat
