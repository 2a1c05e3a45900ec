/- the document's region: Same (printed by mkr16.py) -/
import Derived.Test.YtgijaaklhdcgeaaGreatMR15
import Derived.OwnWalk
import Derived.Laws.OwnMore
set_option linter.unusedSimpArgs false
set_option linter.unusedVariables false
namespace Go.Proofs.YtgijaaklhdcgeaaGreat
open Go.RowKit Go.Geo
attribute [local go_sem] Oper.semAt_some
theorem Tryz.infoBl : (Tryz.prog.info? 4).map (fun i => (i.zero, i.size, i.bytes)) = some (some (.bool false), 1, 1) := by kernel_rfl
theorem Tryz.cellsBl : Tryz.prog.cellsOf 4 = 1 := by kernel_rfl
def OwnBl (w : World) (base g : Nat) (u : List Bool) : Prop := w.ownsRow base 4 1 (.slice (some ⟨g, 0, none⟩) u.length u.length) u.length (u.map Value.bool)
theorem OwnBl.later {w w' : World} {base g : Nat} {u : List Bool} (h : OwnBl w base g u) (hb : Below w.heap.size w w') : OwnBl w' base g u := ownsRow_move h fun g hg => hb.block g (h.lt g hg).2
theorem OwnBl.at {w : World} {base g : Nat} {u : List Bool} (h : OwnBl w base g u) {j : Nat} (hj : j < u.length) : w.cell? ⟨g, j, none⟩ = some (.bool (u.getD j true)) := by
  refine (World.ownsRow.cellAt h j (by omega)).trans ?_
  rw [List.getElem?_map, List.getElem?_eq_getElem hj, List.getD_eq_getElem?_getD, List.getElem?_eq_getElem hj]; rfl
theorem OwnBl.put {w : World} {base g : Nat} {u : List Bool} (h : OwnBl w base g u) (j : Nat) (x : Bool) : OwnBl (w.setCell ⟨g, j, none⟩ (.bool x)) base g (u.set j x) := by
  have h1 := (World.ownsRow.stored h j (.bool x)).1
  unfold OwnBl
  rw [List.length_set, List.map_set]
  exact h1
theorem match_cons (b a : List (List Pt)) (x : List Pt) (u : List Bool) : matchP b (x :: a) u = match firstP b.length (fun k => !u.getD k true && sameP x (b.getD k [])) with
    | none => false
    | some k => matchP b a (u.set k true) := rfl
theorem match_nil (b : List (List Pt)) (u : List Bool) : matchP b [] u = true := rfl
theorem drop_atR {P : List (List Pt)} {k : Nat} (h : k < P.length) : P.drop k = P.getD k [] :: P.drop (k + 1) := by
  rw [List.drop_eq_getElem_cons h, List.getD_eq_getElem?_getD, List.getElem?_eq_getElem h]; rfl
set_option maxRecDepth 100000 in
set_option maxHeartbeats 8000000 in
theorem rSame_region (ao : Option Addr) (n cap : Nat) (P : List (List Pt)) (bo : Option Addr) (m cap2 : Nat) (Q : List (List Pt)) (w : World) (h : IsRings w ao n cap P) (h2 : IsRings w bo m cap2 Q) (hsP : sumLen P ≤ 1000000000000) (hsQ : sumLen Q ≤ 1000000000000) :
    Calls Tryz.prog 7 #[.agg #[.slice ao n cap], .agg #[.slice bo m cap2]] w fun e w' => e = .returned (.bool (regionSameP P Q)) ∧ Below w.heap.size w w' := by
  have HI := Lib.hid h
  have HJ := Lib.hid h2
  have HL := Lib.hid h.1
  have HL2 := Lib.hid h2.1
  obtain ⟨W, hW⟩ : ∃ W, W = (w.alloc (.cells #[.slice ao n cap] 24)).alloc (.cells #[.slice bo m cap2] 24) := ⟨_, rfl⟩
  have a0 : W.heap[w.heap.size]? = some (.cells #[.slice ao n cap] 24 (0, 0)) := by rw [hW]; exact (Below.heap_alloc _ _ _ (by simp)).trans (alloc_new _ _)
  have a1 : W.heap[w.heap.size + 1]? = some (.cells #[.slice bo m cap2] 24 (0, 0)) := by rw [hW]; exact alloc_new2 _ _ _
  have hs0 : W.heap.size = w.heap.size + 2 := by rw [hW]; simp
  have hg0 : Below w.heap.size w W := by rw [hW]; exact ((Below.refl _ _).alloc (Nat.le_refl _) _).alloc (by simp) _
  have H0 := Lib.hid (And.intro hs0 hg0)
  have HC : Hid (∀ wX, Below W.heap.size W wX → wX.cell? ⟨w.heap.size, 0, none⟩ = some (.slice ao n cap) ∧ wX.cell? ⟨w.heap.size + 1, 0, none⟩ = some (.slice bo m cap2)) := Lib.hid (fun wX hX => by
    have q0 := (hX.block _ (heap_lt' a0)).trans a0
    have q1 := (hX.block _ (heap_lt' a1)).trans a1
    exact ⟨cell_of_row _ _ _ _ _ _ q0, cell_of_row _ _ _ _ _ _ q1⟩)
  obtain ⟨c0, c1⟩ := HC.out W (Below.refl _ _)
  rw [hW] at c0 c1
  have HCP : Hid (∀ wX, Below w.heap.size w wX → _) := Lib.hid (fun wX hX => rCheck_region ao n cap P wX (h.later hX (Nat.le_refl _)) hsP)
  have HCQ : Hid (∀ wX, Below w.heap.size w wX → _) := Lib.hid (fun wX hX => rCheck_region bo m cap2 Q wX (h2.later hX (Nat.le_refl _)) hsQ)
  obtain ⟨r, hr⟩ : ∃ r, r = regionSameP P Q := ⟨_, rfl⟩
  rw [← hr]
  have HR := Lib.hid hr
  obtain ⟨fp, hfp⟩ : ∃ f, f = regionCheckP P := ⟨_, rfl⟩
  obtain ⟨fq, hfq⟩ : ∃ f, f = regionCheckP Q := ⟨_, rfl⟩
  rw [← hfp] at HCP
  rw [← hfq] at HCQ
  have HFP := Lib.hid hfp
  have HFQ := Lib.hid hfq
  obtain ⟨f, fa⟩ := fp
  obtain ⟨g, ga⟩ := fq
  unfold faultV at HCP HCQ
  dsimp only at HCP HCQ
  have hfd := fieldF0
  clear h h2 hsP hsQ a0 a1 hs0 hg0 hr hfp hfq
  by_cases hz : f = 0
  · subst hz
    by_cases hz2 : g = 0
    · subst hz2
      by_cases hnm : n = m
      · have hnn : ((n : Int) == (m : Int)) = true := by simp; omega
        have hnn2 : ((n : Int) != (m : Int)) = false := by simp; omega
        have hm20 := (region_ok (g := Q) (by rw [← HFQ.out])).2.1
        rw [HL2.out] at hm20
        have hn20 := (region_ok (g := P) (by rw [← HFP.out])).2.1
        rw [HL.out] at hn20
        have HMA : Hid (r = matchP Q (P.drop 0) (List.replicate Q.length false)) := Lib.hid (by rw [HR.out]; unfold regionSameP; rw [← HFP.out, ← HFQ.out, decide_eq_true rfl, decide_eq_true (show P.length = Q.length by rw [HL.out, HL2.out]; exact hnm)]; rfl)
        clear hnm
        go_enter Tryz.func7, Tryz.ntmps7
        go_wp2_with fail
        rw [← hW]
        clear hW c0 c1
        refine (HCP.out _ H0.out.2).mono ?_
        rintro e w1 ⟨rfl, hb1⟩
        have HB1 := Lib.hid hb1
        obtain ⟨c0, c1⟩ := HC.out w1 hb1
        clear hb1
        go_wp2_with fail
        refine (HCQ.out _ (H0.out.2.trans (HB1.out.mono H0.out.2.size))).mono ?_
        rintro e w2 ⟨rfl, hb2⟩
        have HB2 := Lib.hid (HB1.out.trans (hb2.mono HB1.out.size))
        clear hb2 c0 c1
        obtain ⟨c0, c1⟩ := HC.out w2 HB2.out
        obtain ⟨iB, hiB1, hiB2, hiB3, hiB4⟩ := info_parts Tryz.infoBl
        have hmL : m ≤ maxLen := by unfold maxLen; omega
        have hmB : iB.bytes * m ≤ 281474976710656 := by rw [hiB4]; omega
        go_wp2_with (
          at_make
          refine wpList_make_full _ rfl _ _ _ rfl W.heap.size 4 iB _ 1 (by kernel_rfl) hiB1 hiB2 hiB3 _ _ _ _ m rfl rfl rfl rfl hmB hmL HB2.out.size ?_
          intro w3 ho3 hg3
          have HO3 : Hid (OwnBl w3 W.heap.size w2.heap.size (List.replicate m false)) := Lib.hid (by
            unfold OwnBl
            rw [List.length_replicate, List.map_replicate]
            rw [show (Value.bool false).cells = #[.bool false] from rfl, toList_madeCells_one, Nat.mul_one] at ho3
            exact ho3)
          have HB3 := Lib.hid (HB2.out.grown hg3 HB2.out.size (fun k hk => by cases hk))
          clear ho3 hg3)
        obtain ⟨gB, hgB⟩ : ∃ g, g = w2.heap.size := ⟨_, rfl⟩
        rw [← hgB] at HO3 ⊢
        have HGB : Hid (W.heap.size ≤ gB) := Lib.hid (by rw [hgB]; exact HB2.out.size)
        clear hgB c0 c1 hmL hmB
        go_loopw [6] (fun i wr => ∃ k : Nat, k ≤ n ∧ i = .int .i64 k ∧ (∃ u : List Bool, Hid (u.length = m ∧ OwnBl wr W.heap.size gB u ∧ r = matchP Q (P.drop k) u)) ∧ Hid (Below W.heap.size W wr)) (fun i _ => n - (intOf i).toNat)
        case atStart => exact ⟨0, by omega, rfl, ⟨_, Lib.hid ⟨by simp, HO3.out, by rw [HMA.out, HL2.out]⟩⟩, HB3⟩
        case round =>
          obtain ⟨i, hi, rfl, ⟨u, hu⟩, hbl⟩ := hrel
          obtain ⟨c0, c1⟩ := HC.out wr hbl.out
          by_cases hlt : i < n
          · have hi0 : (0 : Int) ≤ (i : Int) := by omega
            have hi5 : (i : Int) < (n : Int) := by omega
            have HMC : Hid (r = match firstP Q.length (fun k => !u.getD k true && sameP (P.getD i []) (Q.getD k [])) with | none => false | some k => matchP Q (P.drop (i + 1)) (u.set k true)) := Lib.hid (by rw [hu.out.2.2, drop_atR (by rw [HL.out]; exact hlt), match_cons])
            go_wp2_with fail
            go_loopw [7, 8] (fun fd k wr => ∃ j : Nat, ∃ q : Bool, j ≤ m ∧ fd = .bool q ∧ k = .int .i64 j ∧ (∃ u2 : List Bool, Hid (u2.length = m ∧ OwnBl wr W.heap.size gB u2 ∧ (q = false → u2 = u ∧ ∀ t, t < j → (!u.getD t true && sameP (P.getD i []) (Q.getD t [])) = false) ∧ (q = true → ∃ t, firstP Q.length (fun k => !u.getD k true && sameP (P.getD i []) (Q.getD k [])) = some t ∧ u2 = u.set t true))) ∧ Hid (Below W.heap.size W wr)) (fun _ k _ => m - (intOf k).toNat)
            case atStart => exact ⟨0, false, by omega, rfl, rfl, ⟨u, Lib.hid ⟨hu.out.1, hu.out.2.1, fun _ => ⟨rfl, fun t ht => absurd ht (by omega)⟩, fun h => by cases h⟩⟩, hbl⟩
            case round =>
              clear c0 c1
              obtain ⟨k, q, hk, rfl, rfl, ⟨u2, hu2⟩, hbl2⟩ := hrel
              obtain ⟨c0, c1⟩ := HC.out wr hbl2.out
              cases q with
              | true =>
                have HD : Hid (r = matchP Q (P.drop (i + 1)) u2) := Lib.hid (by
                  obtain ⟨t, h1, h2⟩ := hu2.out.2.2.2 (by first | rfl | trivial)
                  rw [HMC.out, h1, h2])
                by_cases hlt2 : k < m
                · have hk0 : (0 : Int) ≤ (k : Int) := by omega
                  have hk5 : (k : Int) < (m : Int) := by omega
                  go_wp2_with fail
                  go_roundw
                  case rel => exact ⟨i + 1, by omega, by go_num, ⟨u2, Lib.hid ⟨hu2.out.1, hu2.out.2.1, HD.out⟩⟩, hbl2⟩
                  case measure => simp [intOf]; omega
                · have hk5 : ¬ (k : Int) < (m : Int) := by omega
                  go_wp2_with fail
                  go_roundw
                  case rel => exact ⟨i + 1, by omega, by go_num, ⟨u2, Lib.hid ⟨hu2.out.1, hu2.out.2.1, HD.out⟩⟩, hbl2⟩
                  case measure => simp [intOf]; omega
              | false =>
                obtain ⟨rfl, hno⟩ := hu2.out.2.2.1 (by first | rfl | trivial)
                have HNO := Lib.hid hno
                clear hno
                by_cases hlt2 : k < m
                · have hk0 : (0 : Int) ≤ (k : Int) := by omega
                  have hk5 : (k : Int) < (m : Int) := by omega
                  have hrP : ∀ wX, Below wr.heap.size wr wX → IsRings wX ao n cap P ∧ IsRings wX bo m cap2 Q := fun wX hX => ⟨((HI.out.later H0.out.2 (Nat.le_refl _)).later hbl2.out (Nat.le_refl _)).later hX (Nat.le_refl _), ((HJ.out.later H0.out.2 (Nat.le_refl _)).later hbl2.out (Nat.le_refl _)).later hX (Nat.le_refl _)⟩
                  obtain ⟨b, off, x, y, z, rfl, e0, _⟩ := (hrP wr (Below.refl _ _)).1.2.2.2.2 i hlt
                  obtain ⟨b2, off2, x2, y2, z2, rfl, e1, _⟩ := (hrP wr (Below.refl _ _)).2.2.2.2.2 k hlt2
                  have hcB := hu2.out.2.1.at (j := k) (by rw [hu2.out.1]; exact hlt2)
                  have hfz : wr.frozen? ⟨gB, k, none⟩ = false := World.ownsRow.frozenAt hu2.out.2.1 k
                  obtain ⟨us, hus⟩ : ∃ us, us = u2.getD k true := ⟨_, rfl⟩
                  rw [← hus] at hcB
                  have HUS := Lib.hid hus
                  have hHC : ∀ wX, Below W.heap.size W wX → _ := HC.out
                  have hcells : ∀ wX, Below wr.heap.size wr wX → wX.cell? ⟨gB, k, none⟩ = some (.bool us) ∧ wX.cell? ⟨w.heap.size, 0, none⟩ = some (.slice (some ⟨b, off, none⟩) n cap) ∧ wX.cell? ⟨w.heap.size + 1, 0, none⟩ = some (.slice (some ⟨b2, off2, none⟩) m cap2) ∧ wX.cell? ⟨b, off + i, none⟩ = some (.slice x y z) ∧ wX.cell? ⟨b2, off2 + k, none⟩ = some (.slice x2 y2 z2) := fun wX hX => ⟨(hX.cell (p := ⟨gB, _, none⟩) (block_lt_of_cell hcB)).trans hcB, (hHC wX (hbl2.out.trans (hX.mono hbl2.out.size))).1, (hHC wX (hbl2.out.trans (hX.mono hbl2.out.size))).2, (hX.cell (p := ⟨b, _, none⟩) (block_lt_of_cell e0)).trans e0, (hX.cell (p := ⟨b2, _, none⟩) (block_lt_of_cell e1)).trans e1⟩
                  have HCELLS := Lib.hid hcells
                  obtain ⟨v, hv⟩ : ∃ v, v = sameP (P.getD i []) (Q.getD k []) := ⟨_, rfl⟩
                  have HV := Lib.hid hv
                  have hSA : ∀ wX, Below wr.heap.size wr wX → Calls Tryz.prog 18 #[.slice x y z, .slice x2 y2 z2] wX fun e w' => e = .returned (.bool v) ∧ Below wX.heap.size wX w' := fun wX hX => by
                    obtain ⟨b', off', x', y', z', hb', e0', hp⟩ := (hrP wX hX).1.2.2.2.2 i hlt
                    obtain ⟨b2', off2', x2', y2', z2', hb2', e1', hp2⟩ := (hrP wX hX).2.2.2.2.2 k hlt2
                    cases hb'
                    cases hb2'
                    rw [(hcells wX hX).2.2.2.1] at e0'
                    rw [(hcells wX hX).2.2.2.2] at e1'
                    cases e0'
                    cases e1'
                    rw [hv]
                    exact rSame_ring _ _ _ _ _ _ _ _ _ hp hp2
                  have HSA := Lib.hid hSA
                  clear hSA hv hcells hHC hus hrP
                  cases us with
                  | true =>
                    clear e0 e1 hcB
                    go_wp2_with fail
                    refine wp_region_J (s := [(50, 0), (51, 1), (52, 2), (53, 3), (54, 4), (55, 5), (56, 6), (57, 7), (58, 8), (59, 9), (60, 10), (61, 11), (62, 12), (63, 13), (64, 14), (65, 15), (66, 16), (67, 17)]) (by kernel_rfl) (StdJ wr (fun iX => match iX with | 0 => some (.slice (some ⟨gB, 0, none⟩) m m) | 1 => some (.int .i64 (k : Int)) | 2 => some (.pointer (some ⟨gB, k, none⟩)) | 3 => some (.bool true) | 4 => some (.bool false) | 5 => some (.bool false) | 6 => some (undef) | 7 => some (undef) | 8 => some (undef) | 9 => some (undef) | 10 => some (undef) | 11 => some (undef) | 12 => some (undef) | 13 => some (undef) | 14 => some (undef) | 15 => some (undef) | 16 => some (undef) | 17 => some (.bool false) | _ => none) []) (by kernel_rfl) (by kernel_rfl) (by kernel_rfl) (by kernel_rfl) (fun _ => undef) ?start11 ?step11 ?done11
                    case start11 => exact StdJ.start ((Below.refl _ _).drew)
                    case step11 =>
                      refine ⟨?o11_0, ?o11_1, ?o11_2, ?o11_3, ?o11_4, ?o11_5, ?o11_6, ?o11_7, ?o11_8, ?o11_9, ?o11_10, ?o11_11, ?o11_12, ?o11_13, ?o11_14, ?o11_15, ?o11_16, ?o11_17, trivial⟩
                      case o11_0 =>
                        intro LX V aX wX K hl hp hcl hf hJ hK
                        have t5 : aX.tmps[5]? = some (.slice (some ⟨gB, 0, none⟩) m m) := hf.old (by kernel_rfl) rfl
                        rw [if_pos (by rfl)]
                        go_simp
                        exact hK _ _ (hJ.val (Below.refl _ _) 0 _ (by kernel_rfl) rfl)
                      case o11_1 =>
                        intro LX V aX wX K hl hp hcl hf hJ hK
                        have t8 : aX.tmps[8]? = some (.int .i64 (k : Int)) := hf.old (by kernel_rfl) rfl
                        rw [if_pos (by rfl)]
                        go_simp
                        exact hK _ _ (hJ.val (Below.refl _ _) 1 _ (by kernel_rfl) rfl)
                      case o11_2 =>
                        intro LX V aX wX K hl hp hcl hf hJ hK
                        have t50 := hf.in (i := 0) (d := 50) (by kernel_rfl) (hp 0 (by kernel_rfl)) (hJ.vals 0 _ rfl (hp 0 (by kernel_rfl)))
                        have t51 := hf.in (i := 1) (d := 51) (by kernel_rfl) (hp 1 (by kernel_rfl)) (hJ.vals 1 _ rfl (hp 1 (by kernel_rfl)))
                        rw [if_pos (by rfl)]
                        go_simp
                        exact hK _ _ (hJ.val (Below.refl _ _) 2 _ (by kernel_rfl) rfl)
                      case o11_3 =>
                        intro LX V aX wX K hl hp hcl hf hJ hK
                        have t52 := hf.in (i := 2) (d := 52) (by kernel_rfl) (hp 2 (by kernel_rfl)) (hJ.vals 2 _ rfl (hp 2 (by kernel_rfl)))
                        obtain ⟨c0, c1, c2, c3, c4⟩ := HCELLS.out wX hJ.below
                        rw [if_pos (by rfl)]
                        go_simp
                        exact hK _ _ (hJ.val (Below.refl _ _) 3 _ (by kernel_rfl) rfl)
                      case o11_4 =>
                        intro LX V aX wX K hl hp hcl hf hJ hK
                        have t53 := hf.in (i := 3) (d := 53) (by kernel_rfl) (hp 3 (by kernel_rfl)) (hJ.vals 3 _ rfl (hp 3 (by kernel_rfl)))
                        rw [if_pos (by rfl)]
                        go_simp
                        exact hK _ _ (hJ.val (Below.refl _ _) 4 _ (by kernel_rfl) rfl)
                      case o11_5 =>
                        intro LX V aX wX K hl hp hcl hf hJ hK
                        have t54 := hf.in (i := 4) (d := 54) (by kernel_rfl) (hp 4 (by kernel_rfl)) (hJ.vals 4 _ rfl (hp 4 (by kernel_rfl)))
                        rw [if_pos (by rfl)]
                        go_simp
                        exact hK _ _ (hJ.val (Below.refl _ _) 5 _ (by kernel_rfl) rfl)
                      case o11_6 =>
                        intro LX V aX wX K hl hp hcl hf hJ hK
                        have t55 := hf.in (i := 5) (d := 55) (by kernel_rfl) (hp 5 (by kernel_rfl)) (hJ.vals 5 _ rfl (hp 5 (by kernel_rfl)))
                        rw [if_neg (by rw [wanted_not (b := true) rfl rfl t55]; exact Bool.false_ne_true)]
                        exact hK _ _ (hJ.val (Below.refl _ _) 6 _ (by kernel_rfl) rfl)
                      case o11_7 =>
                        intro LX V aX wX K hl hp hcl hf hJ hK
                        have t55 := hf.in (i := 5) (d := 55) (by kernel_rfl) (hp 5 (by kernel_rfl)) (hJ.vals 5 _ rfl (hp 5 (by kernel_rfl)))
                        rw [if_neg (by rw [wanted_not (b := true) rfl rfl t55]; exact Bool.false_ne_true)]
                        exact hK _ _ (hJ.val (Below.refl _ _) 7 _ (by kernel_rfl) rfl)
                      case o11_8 =>
                        intro LX V aX wX K hl hp hcl hf hJ hK
                        have t55 := hf.in (i := 5) (d := 55) (by kernel_rfl) (hp 5 (by kernel_rfl)) (hJ.vals 5 _ rfl (hp 5 (by kernel_rfl)))
                        rw [if_neg (by rw [wanted_not (b := true) rfl rfl t55]; exact Bool.false_ne_true)]
                        exact hK _ _ (hJ.val (Below.refl _ _) 8 _ (by kernel_rfl) rfl)
                      case o11_9 =>
                        intro LX V aX wX K hl hp hcl hf hJ hK
                        have t55 := hf.in (i := 5) (d := 55) (by kernel_rfl) (hp 5 (by kernel_rfl)) (hJ.vals 5 _ rfl (hp 5 (by kernel_rfl)))
                        rw [if_neg (by rw [wanted_not (b := true) rfl rfl t55]; exact Bool.false_ne_true)]
                        exact hK _ _ (hJ.val (Below.refl _ _) 9 _ (by kernel_rfl) rfl)
                      case o11_10 =>
                        intro LX V aX wX K hl hp hcl hf hJ hK
                        have t55 := hf.in (i := 5) (d := 55) (by kernel_rfl) (hp 5 (by kernel_rfl)) (hJ.vals 5 _ rfl (hp 5 (by kernel_rfl)))
                        rw [if_neg (by rw [wanted_not (b := true) rfl rfl t55]; exact Bool.false_ne_true)]
                        exact hK _ _ (hJ.val (Below.refl _ _) 10 _ (by kernel_rfl) rfl)
                      case o11_11 =>
                        intro LX V aX wX K hl hp hcl hf hJ hK
                        have t55 := hf.in (i := 5) (d := 55) (by kernel_rfl) (hp 5 (by kernel_rfl)) (hJ.vals 5 _ rfl (hp 5 (by kernel_rfl)))
                        rw [if_neg (by rw [wanted_not (b := true) rfl rfl t55]; exact Bool.false_ne_true)]
                        exact hK _ _ (hJ.val (Below.refl _ _) 11 _ (by kernel_rfl) rfl)
                      case o11_12 =>
                        intro LX V aX wX K hl hp hcl hf hJ hK
                        have t55 := hf.in (i := 5) (d := 55) (by kernel_rfl) (hp 5 (by kernel_rfl)) (hJ.vals 5 _ rfl (hp 5 (by kernel_rfl)))
                        rw [if_neg (by rw [wanted_not (b := true) rfl rfl t55]; exact Bool.false_ne_true)]
                        exact hK _ _ (hJ.val (Below.refl _ _) 12 _ (by kernel_rfl) rfl)
                      case o11_13 =>
                        intro LX V aX wX K hl hp hcl hf hJ hK
                        have t55 := hf.in (i := 5) (d := 55) (by kernel_rfl) (hp 5 (by kernel_rfl)) (hJ.vals 5 _ rfl (hp 5 (by kernel_rfl)))
                        rw [if_neg (by rw [wanted_not (b := true) rfl rfl t55]; exact Bool.false_ne_true)]
                        exact hK _ _ (hJ.val (Below.refl _ _) 13 _ (by kernel_rfl) rfl)
                      case o11_14 =>
                        intro LX V aX wX K hl hp hcl hf hJ hK
                        have t55 := hf.in (i := 5) (d := 55) (by kernel_rfl) (hp 5 (by kernel_rfl)) (hJ.vals 5 _ rfl (hp 5 (by kernel_rfl)))
                        rw [if_neg (by rw [wanted_not (b := true) rfl rfl t55]; exact Bool.false_ne_true)]
                        exact hK _ _ (hJ.val (Below.refl _ _) 14 _ (by kernel_rfl) rfl)
                      case o11_15 =>
                        intro LX V aX wX K hl hp hcl hf hJ hK
                        have t55 := hf.in (i := 5) (d := 55) (by kernel_rfl) (hp 5 (by kernel_rfl)) (hJ.vals 5 _ rfl (hp 5 (by kernel_rfl)))
                        rw [if_neg (by rw [wanted_not (b := true) rfl rfl t55]; exact Bool.false_ne_true)]
                        exact hK _ _ (hJ.val (Below.refl _ _) 15 _ (by kernel_rfl) rfl)
                      case o11_16 =>
                        intro LX V aX wX K hl hp hcl hf hJ hK
                        have t55 := hf.in (i := 5) (d := 55) (by kernel_rfl) (hp 5 (by kernel_rfl)) (hJ.vals 5 _ rfl (hp 5 (by kernel_rfl)))
                        rw [if_neg (by rw [wanted_not (b := true) rfl rfl t55]; exact Bool.false_ne_true)]
                        exact hK _ _ (hJ.val (Below.refl _ _) 16 _ (by kernel_rfl) rfl)
                      case o11_17 =>
                        intro LX V aX wX K hl hp hcl hf hJ hK
                        have t55 := hf.in (i := 5) (d := 55) (by kernel_rfl) (hp 5 (by kernel_rfl)) (hJ.vals 5 _ rfl (hp 5 (by kernel_rfl)))
                        have t66 := hf.in (i := 16) (d := 66) (by kernel_rfl) (hp 16 (by kernel_rfl)) (hJ.vals 16 _ rfl (hp 16 (by kernel_rfl)))
                        rw [if_pos (by rfl)]
                        go_simp
                        exact hK _ _ (hJ.val (Below.refl _ _) 17 _ (by kernel_rfl) rfl)
                    intro V wZ hJ
                    have hv := hJ.vals 17 _ rfl (by kernel_rfl)
                    have HBZ := Lib.hid hJ.below
                    simp only [puts, Act.put, List.setIfInBounds_toArray, List.set_cons_zero, List.set_cons_succ]
                    rw [hv]
                    clear hJ hv
                    go_wp2_with fail
                    go_roundw
                    case rel =>
                      refine ⟨k + 1, false, by omega, by first | rfl | assumption, by go_num, ⟨u2, Lib.hid ⟨hu2.out.1, hu2.out.2.1.later HBZ.out, fun _ => ⟨rfl, fun t ht => ?_⟩, fun h => by cases h⟩⟩, Lib.hid (hbl2.out.trans (HBZ.out.mono hbl2.out.size))⟩
                      by_cases htk : t < k
                      · exact HNO.out t htk
                      · obtain rfl : t = k := by omega
                        rw [← HUS.out]; rfl
                    case measure => simp [intOf]; omega
                  | false =>
                    clear e0 e1 hcB
                    go_wp2_with fail
                    refine wp_region_J (s := [(50, 0), (51, 1), (52, 2), (53, 3), (54, 4), (55, 5), (56, 6), (57, 7), (58, 8), (59, 9), (60, 10), (61, 11), (62, 12), (63, 13), (64, 14), (65, 15), (66, 16), (67, 17)]) (by kernel_rfl) (StdJ wr (fun iX => match iX with | 0 => some (.slice (some ⟨gB, 0, none⟩) m m) | 1 => some (.int .i64 (k : Int)) | 2 => some (.pointer (some ⟨gB, k, none⟩)) | 3 => some (.bool false) | 4 => some (.bool true) | 5 => some (.bool true) | 6 => some (.pointer (some ⟨w.heap.size, 0, none⟩)) | 7 => some (.slice (some ⟨b, off, none⟩) n cap) | 8 => some (.int .i64 (i : Int)) | 9 => some (.pointer (some ⟨b, off + i, none⟩)) | 10 => some (.slice x y z) | 11 => some (.pointer (some ⟨(w.heap.size + 1), 0, none⟩)) | 12 => some (.slice (some ⟨b2, off2, none⟩) m cap2) | 13 => some (.int .i64 (k : Int)) | 14 => some (.pointer (some ⟨b2, off2 + k, none⟩)) | 15 => some (.slice x2 y2 z2) | 16 => some (.bool v) | 17 => some (.bool v) | _ => none) []) (by kernel_rfl) (by kernel_rfl) (by kernel_rfl) (by kernel_rfl) (fun _ => undef) ?start11b ?step11b ?done11b
                    case start11b => exact StdJ.start ((Below.refl _ _).drew)
                    case step11b =>
                      refine ⟨?o11b_0, ?o11b_1, ?o11b_2, ?o11b_3, ?o11b_4, ?o11b_5, ?o11b_6, ?o11b_7, ?o11b_8, ?o11b_9, ?o11b_10, ?o11b_11, ?o11b_12, ?o11b_13, ?o11b_14, ?o11b_15, ?o11b_16, ?o11b_17, trivial⟩
                      case o11b_0 =>
                        intro LX V aX wX K hl hp hcl hf hJ hK
                        have t5 : aX.tmps[5]? = some (.slice (some ⟨gB, 0, none⟩) m m) := hf.old (by kernel_rfl) rfl
                        rw [if_pos (by rfl)]
                        go_simp
                        exact hK _ _ (hJ.val (Below.refl _ _) 0 _ (by kernel_rfl) rfl)
                      case o11b_1 =>
                        intro LX V aX wX K hl hp hcl hf hJ hK
                        have t8 : aX.tmps[8]? = some (.int .i64 (k : Int)) := hf.old (by kernel_rfl) rfl
                        rw [if_pos (by rfl)]
                        go_simp
                        exact hK _ _ (hJ.val (Below.refl _ _) 1 _ (by kernel_rfl) rfl)
                      case o11b_2 =>
                        intro LX V aX wX K hl hp hcl hf hJ hK
                        have t50 := hf.in (i := 0) (d := 50) (by kernel_rfl) (hp 0 (by kernel_rfl)) (hJ.vals 0 _ rfl (hp 0 (by kernel_rfl)))
                        have t51 := hf.in (i := 1) (d := 51) (by kernel_rfl) (hp 1 (by kernel_rfl)) (hJ.vals 1 _ rfl (hp 1 (by kernel_rfl)))
                        rw [if_pos (by rfl)]
                        go_simp
                        exact hK _ _ (hJ.val (Below.refl _ _) 2 _ (by kernel_rfl) rfl)
                      case o11b_3 =>
                        intro LX V aX wX K hl hp hcl hf hJ hK
                        have t52 := hf.in (i := 2) (d := 52) (by kernel_rfl) (hp 2 (by kernel_rfl)) (hJ.vals 2 _ rfl (hp 2 (by kernel_rfl)))
                        obtain ⟨c0, c1, c2, c3, c4⟩ := HCELLS.out wX hJ.below
                        rw [if_pos (by rfl)]
                        go_simp
                        exact hK _ _ (hJ.val (Below.refl _ _) 3 _ (by kernel_rfl) rfl)
                      case o11b_4 =>
                        intro LX V aX wX K hl hp hcl hf hJ hK
                        have t53 := hf.in (i := 3) (d := 53) (by kernel_rfl) (hp 3 (by kernel_rfl)) (hJ.vals 3 _ rfl (hp 3 (by kernel_rfl)))
                        rw [if_pos (by rfl)]
                        go_simp
                        exact hK _ _ (hJ.val (Below.refl _ _) 4 _ (by kernel_rfl) rfl)
                      case o11b_5 =>
                        intro LX V aX wX K hl hp hcl hf hJ hK
                        have t54 := hf.in (i := 4) (d := 54) (by kernel_rfl) (hp 4 (by kernel_rfl)) (hJ.vals 4 _ rfl (hp 4 (by kernel_rfl)))
                        rw [if_pos (by rfl)]
                        go_simp
                        exact hK _ _ (hJ.val (Below.refl _ _) 5 _ (by kernel_rfl) rfl)
                      case o11b_6 =>
                        intro LX V aX wX K hl hp hcl hf hJ hK
                        have t2 : aX.tmps[2]? = some (.pointer (some ⟨w.heap.size, 0, none⟩)) := hf.old (by kernel_rfl) rfl
                        have t55 := hf.in (i := 5) (d := 55) (by kernel_rfl) (hp 5 (by kernel_rfl)) (hJ.vals 5 _ rfl (hp 5 (by kernel_rfl)))
                        rw [if_pos (wanted_of rfl rfl t55)]
                        go_simp
                        exact hK _ _ (hJ.val (Below.refl _ _) 6 _ (by kernel_rfl) rfl)
                      case o11b_7 =>
                        intro LX V aX wX K hl hp hcl hf hJ hK
                        have t56 := hf.in (i := 6) (d := 56) (by kernel_rfl) (hp 6 (by kernel_rfl)) (hJ.vals 6 _ rfl (hp 6 (by kernel_rfl)))
                        have t55 := hf.in (i := 5) (d := 55) (by kernel_rfl) (hp 5 (by kernel_rfl)) (hJ.vals 5 _ rfl (hp 5 (by kernel_rfl)))
                        obtain ⟨c0, c1, c2, c3, c4⟩ := HCELLS.out wX hJ.below
                        rw [if_pos (wanted_of rfl rfl t55)]
                        go_simp
                        exact hK _ _ (hJ.val (Below.refl _ _) 7 _ (by kernel_rfl) rfl)
                      case o11b_8 =>
                        intro LX V aX wX K hl hp hcl hf hJ hK
                        have t6 : aX.tmps[6]? = some (.int .i64 (i : Int)) := hf.old (by kernel_rfl) rfl
                        have t55 := hf.in (i := 5) (d := 55) (by kernel_rfl) (hp 5 (by kernel_rfl)) (hJ.vals 5 _ rfl (hp 5 (by kernel_rfl)))
                        rw [if_pos (wanted_of rfl rfl t55)]
                        go_simp
                        exact hK _ _ (hJ.val (Below.refl _ _) 8 _ (by kernel_rfl) rfl)
                      case o11b_9 =>
                        intro LX V aX wX K hl hp hcl hf hJ hK
                        have t57 := hf.in (i := 7) (d := 57) (by kernel_rfl) (hp 7 (by kernel_rfl)) (hJ.vals 7 _ rfl (hp 7 (by kernel_rfl)))
                        have t58 := hf.in (i := 8) (d := 58) (by kernel_rfl) (hp 8 (by kernel_rfl)) (hJ.vals 8 _ rfl (hp 8 (by kernel_rfl)))
                        have t55 := hf.in (i := 5) (d := 55) (by kernel_rfl) (hp 5 (by kernel_rfl)) (hJ.vals 5 _ rfl (hp 5 (by kernel_rfl)))
                        rw [if_pos (wanted_of rfl rfl t55)]
                        go_simp
                        exact hK _ _ (hJ.val (Below.refl _ _) 9 _ (by kernel_rfl) rfl)
                      case o11b_10 =>
                        intro LX V aX wX K hl hp hcl hf hJ hK
                        have t59 := hf.in (i := 9) (d := 59) (by kernel_rfl) (hp 9 (by kernel_rfl)) (hJ.vals 9 _ rfl (hp 9 (by kernel_rfl)))
                        have t55 := hf.in (i := 5) (d := 55) (by kernel_rfl) (hp 5 (by kernel_rfl)) (hJ.vals 5 _ rfl (hp 5 (by kernel_rfl)))
                        obtain ⟨c0, c1, c2, c3, c4⟩ := HCELLS.out wX hJ.below
                        rw [if_pos (wanted_of rfl rfl t55)]
                        go_simp
                        exact hK _ _ (hJ.val (Below.refl _ _) 10 _ (by kernel_rfl) rfl)
                      case o11b_11 =>
                        intro LX V aX wX K hl hp hcl hf hJ hK
                        have t3 : aX.tmps[3]? = some (.pointer (some ⟨(w.heap.size + 1), 0, none⟩)) := hf.old (by kernel_rfl) rfl
                        have t55 := hf.in (i := 5) (d := 55) (by kernel_rfl) (hp 5 (by kernel_rfl)) (hJ.vals 5 _ rfl (hp 5 (by kernel_rfl)))
                        rw [if_pos (wanted_of rfl rfl t55)]
                        go_simp
                        exact hK _ _ (hJ.val (Below.refl _ _) 11 _ (by kernel_rfl) rfl)
                      case o11b_12 =>
                        intro LX V aX wX K hl hp hcl hf hJ hK
                        have t61 := hf.in (i := 11) (d := 61) (by kernel_rfl) (hp 11 (by kernel_rfl)) (hJ.vals 11 _ rfl (hp 11 (by kernel_rfl)))
                        have t55 := hf.in (i := 5) (d := 55) (by kernel_rfl) (hp 5 (by kernel_rfl)) (hJ.vals 5 _ rfl (hp 5 (by kernel_rfl)))
                        obtain ⟨c0, c1, c2, c3, c4⟩ := HCELLS.out wX hJ.below
                        rw [if_pos (wanted_of rfl rfl t55)]
                        go_simp
                        exact hK _ _ (hJ.val (Below.refl _ _) 12 _ (by kernel_rfl) rfl)
                      case o11b_13 =>
                        intro LX V aX wX K hl hp hcl hf hJ hK
                        have t8 : aX.tmps[8]? = some (.int .i64 (k : Int)) := hf.old (by kernel_rfl) rfl
                        have t55 := hf.in (i := 5) (d := 55) (by kernel_rfl) (hp 5 (by kernel_rfl)) (hJ.vals 5 _ rfl (hp 5 (by kernel_rfl)))
                        rw [if_pos (wanted_of rfl rfl t55)]
                        go_simp
                        exact hK _ _ (hJ.val (Below.refl _ _) 13 _ (by kernel_rfl) rfl)
                      case o11b_14 =>
                        intro LX V aX wX K hl hp hcl hf hJ hK
                        have t62 := hf.in (i := 12) (d := 62) (by kernel_rfl) (hp 12 (by kernel_rfl)) (hJ.vals 12 _ rfl (hp 12 (by kernel_rfl)))
                        have t63 := hf.in (i := 13) (d := 63) (by kernel_rfl) (hp 13 (by kernel_rfl)) (hJ.vals 13 _ rfl (hp 13 (by kernel_rfl)))
                        have t55 := hf.in (i := 5) (d := 55) (by kernel_rfl) (hp 5 (by kernel_rfl)) (hJ.vals 5 _ rfl (hp 5 (by kernel_rfl)))
                        rw [if_pos (wanted_of rfl rfl t55)]
                        go_simp
                        exact hK _ _ (hJ.val (Below.refl _ _) 14 _ (by kernel_rfl) rfl)
                      case o11b_15 =>
                        intro LX V aX wX K hl hp hcl hf hJ hK
                        have t64 := hf.in (i := 14) (d := 64) (by kernel_rfl) (hp 14 (by kernel_rfl)) (hJ.vals 14 _ rfl (hp 14 (by kernel_rfl)))
                        have t55 := hf.in (i := 5) (d := 55) (by kernel_rfl) (hp 5 (by kernel_rfl)) (hJ.vals 5 _ rfl (hp 5 (by kernel_rfl)))
                        obtain ⟨c0, c1, c2, c3, c4⟩ := HCELLS.out wX hJ.below
                        rw [if_pos (wanted_of rfl rfl t55)]
                        go_simp
                        exact hK _ _ (hJ.val (Below.refl _ _) 15 _ (by kernel_rfl) rfl)
                      case o11b_16 =>
                        intro LX V aX wX K hl hp hcl hf hJ hK
                        have t60 := hf.in (i := 10) (d := 60) (by kernel_rfl) (hp 10 (by kernel_rfl)) (hJ.vals 10 _ rfl (hp 10 (by kernel_rfl)))
                        have t65 := hf.in (i := 15) (d := 65) (by kernel_rfl) (hp 15 (by kernel_rfl)) (hJ.vals 15 _ rfl (hp 15 (by kernel_rfl)))
                        have t55 := hf.in (i := 5) (d := 55) (by kernel_rfl) (hp 5 (by kernel_rfl)) (hJ.vals 5 _ rfl (hp 5 (by kernel_rfl)))
                        rw [if_pos (wanted_of rfl rfl t55)]
                        go_simp
                        refine (HSA.out _ hJ.below).mono ?_
                        rintro e wA ⟨rfl, hbA⟩
                        exact hK _ _ (hJ.val (hbA) 16 _ (by kernel_rfl) rfl)
                      case o11b_17 =>
                        intro LX V aX wX K hl hp hcl hf hJ hK
                        have t55 := hf.in (i := 5) (d := 55) (by kernel_rfl) (hp 5 (by kernel_rfl)) (hJ.vals 5 _ rfl (hp 5 (by kernel_rfl)))
                        have t66 := hf.in (i := 16) (d := 66) (by kernel_rfl) (hp 16 (by kernel_rfl)) (hJ.vals 16 _ rfl (hp 16 (by kernel_rfl)))
                        rw [if_pos (by rfl)]
                        go_simp
                        exact hK _ _ (hJ.val (Below.refl _ _) 17 _ (by kernel_rfl) rfl)
                    intro V wZ hJ
                    have hv := hJ.vals 17 _ rfl (by kernel_rfl)
                    have HBZ := Lib.hid hJ.below
                    simp only [puts, Act.put, List.setIfInBounds_toArray, List.set_cons_zero, List.set_cons_succ]
                    rw [hv]
                    clear hJ hv
                    cases v with
                    | true =>
                      have HFI : Hid (firstP Q.length (fun k => !u2.getD k true && sameP (P.getD i []) (Q.getD k [])) = some k) := Lib.hid (firstP_some (by rw [HL2.out]; exact hlt2) (by rw [← HUS.out, ← HV.out]; rfl) HNO.out)
                      have HOZ := Lib.hid (hu2.out.2.1.later HBZ.out)
                      have hfz2 : wZ.frozen? ⟨gB, k, none⟩ = false := World.ownsRow.frozenAt HOZ.out k
                      have hcZ := HOZ.out.at (j := k) (by rw [hu2.out.1]; exact hlt2)
                      rw [← HUS.out] at hcZ
                      go_wp2_with fail
                      go_roundw
                      case rel =>
                        refine ⟨k + 1, true, by omega, rfl, by go_num, ⟨u2.set k true, Lib.hid ⟨by rw [List.length_set]; exact hu2.out.1, HOZ.out.put k true, (fun h => by cases h), fun _ => ⟨k, HFI.out, rfl⟩⟩⟩, Lib.hid ((hbl2.out.trans (HBZ.out.mono hbl2.out.size)).trans ((Below.refl _ _).setCell (p := ⟨gB, k, none⟩) HGB.out _))⟩
                      case measure => simp [intOf]; omega
                    | false =>
                      go_wp2_with fail
                      go_roundw
                      case rel =>
                        refine ⟨k + 1, false, by omega, by first | rfl | assumption, by go_num, ⟨u2, Lib.hid ⟨hu2.out.1, hu2.out.2.1.later HBZ.out, fun _ => ⟨rfl, fun t ht => ?_⟩, fun h => by cases h⟩⟩, Lib.hid (hbl2.out.trans (HBZ.out.mono hbl2.out.size))⟩
                        by_cases htk : t < k
                        · exact HNO.out t htk
                        · obtain rfl : t = k := by omega
                          rw [← HUS.out, ← HV.out]; rfl
                      case measure => simp [intOf]; omega
                · have hkm : m = k := by omega
                  subst hkm
                  have hk5 : ¬ (m : Int) < (m : Int) := by omega
                  have HRF : Hid (r = false) := Lib.hid (by rw [HMC.out, firstP_none (by rw [HL2.out]; exact HNO.out)])
                  go_wp2_with fail
                  go_ret
                  exact ⟨by rw [HRF.out]; rfl, H0.out.2.trans (hbl2.out.mono (by have := H0.out.2.size; exact this))⟩
          · have hin : n = i := by omega
            subst hin
            have hi5 : ¬ (n : Int) < (n : Int) := by omega
            have HRT : Hid (r = true) := Lib.hid (by rw [hu.out.2.2, List.drop_of_length_le (by rw [HL.out]; exact Nat.le_refl _)]; rfl)
            go_wp2_with fail
            go_ret
            exact ⟨by rw [HRT.out]; rfl, H0.out.2.trans (hbl.out.mono (by have := H0.out.2.size; exact this))⟩
      · have hnn : ((n : Int) == (m : Int)) = false := by simp; omega
        have hnn2 : ((n : Int) != (m : Int)) = true := by simp; omega
        have hr0 : Hid (r = false) := Lib.hid (by rw [HR.out]; unfold regionSameP; rw [decide_eq_false (show ¬ P.length = Q.length by rw [HL.out, HL2.out]; exact hnm)]; simp)
        clear hnm
        go_enter Tryz.func7, Tryz.ntmps7
        go_wp2_with fail
        rw [← hW]
        clear hW c0 c1
        refine (HCP.out _ H0.out.2).mono ?_
        rintro e w1 ⟨rfl, hb1⟩
        have HB1 := Lib.hid hb1
        obtain ⟨c0, c1⟩ := HC.out w1 hb1
        clear hb1
        go_wp2_with fail
        refine (HCQ.out _ (H0.out.2.trans (HB1.out.mono H0.out.2.size))).mono ?_
        rintro e w2 ⟨rfl, hb2⟩
        have HB2 := Lib.hid (HB1.out.trans (hb2.mono HB1.out.size))
        clear hb2 c0 c1
        obtain ⟨c0, c1⟩ := HC.out w2 HB2.out
        go_wp2_with fail
        go_ret
        exact ⟨by rw [hr0.out] <;> rfl, H0.out.2.trans (HB2.out.mono H0.out.2.size)⟩
    · have hzz : (g == 0) = false := by simp [hz2]
      have hzz2 : (g != 0) = true := by simp [hz2]
      have hr0 : Hid (r = false) := Lib.hid (by rw [HR.out]; unfold regionSameP; rw [← HFP.out, ← HFQ.out, decide_eq_false (show ¬ g = 0 from hz2)]; simp)
      clear hz2
      go_enter Tryz.func7, Tryz.ntmps7
      go_wp2_with fail
      rw [← hW]
      clear hW c0 c1
      refine (HCP.out _ H0.out.2).mono ?_
      rintro e w1 ⟨rfl, hb1⟩
      have HB1 := Lib.hid hb1
      obtain ⟨c0, c1⟩ := HC.out w1 hb1
      clear hb1
      go_wp2_with fail
      refine (HCQ.out _ (H0.out.2.trans (HB1.out.mono H0.out.2.size))).mono ?_
      rintro e w2 ⟨rfl, hb2⟩
      have HB2 := Lib.hid (HB1.out.trans (hb2.mono HB1.out.size))
      clear hb2 c0 c1
      go_wp2_with fail
      go_ret
      exact ⟨by rw [hr0.out] <;> rfl, H0.out.2.trans (HB2.out.mono H0.out.2.size)⟩
  · have hzz : (f == 0) = false := by simp [hz]
    have hzz2 : (f != 0) = true := by simp [hz]
    have hr0 : Hid (r = false) := Lib.hid (by rw [HR.out]; unfold regionSameP; rw [← HFP.out, decide_eq_false (show ¬ f = 0 from hz)]; simp)
    clear hz
    go_enter Tryz.func7, Tryz.ntmps7
    go_wp2_with fail
    rw [← hW]
    clear hW c0 c1
    refine (HCP.out _ H0.out.2).mono ?_
    rintro e w1 ⟨rfl, hb1⟩
    have HB1 := Lib.hid hb1
    clear hb1
    go_wp2_with fail
    go_ret
    exact ⟨by rw [hr0.out] <;> rfl, H0.out.2.trans (HB1.out.mono H0.out.2.size)⟩
end Go.Proofs.YtgijaaklhdcgeaaGreat
