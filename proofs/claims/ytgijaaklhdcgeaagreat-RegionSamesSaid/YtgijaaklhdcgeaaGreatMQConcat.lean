/- the document's region: Check, the ring's Check given -/
import Derived.Test.YtgijaaklhdcgeaaGreatMR11b
import Derived.Test.YtgijaaklhdcgeaaGreatMQRegIn
import Derived.Test.YtgijaaklhdcgeaaGreatMNum1
import Derived.Test.YtgijaaklhdcgeaaGreatMRegJ
import Derived.Test.YtgijaaklhdcgeaaGreatMQRSize
import Derived.Test.YtgijaaklhdcgeaaGreatMQCounts
import Derived.Lib.AppendZerosOnto
set_option linter.unusedSimpArgs false
set_option linter.unusedVariables false
namespace Go.Proofs.YtgijaaklhdcgeaaGreat
open Go.RowKit Go.Shelf Go.Geo
attribute [local go_sem] Oper.semAt_some
theorem badPair_true {R : List (List Pt)} {i k : Nat} (h1 : i < k) (h2 : k < R.length) (h : ringsMeet (R.getD i []) (R.getD k []) = true) : badPair R i = true := by
  unfold badPair
  rw [List.any_eq_true]
  refine ⟨R.getD k [], ?_, h⟩
  rw [List.getD_eq_getElem?_getD, List.getElem?_eq_getElem h2, Option.getD_some]
  rw [List.mem_iff_getElem]
  refine ⟨k - (i + 1), by rw [List.length_drop]; omega, ?_⟩
  rw [List.getElem_drop]
  congr 1
  omega
theorem badPair_false {R : List (List Pt)} {i : Nat} (h : ∀ k, i < k → k < R.length → ringsMeet (R.getD i []) (R.getD k []) = false) : badPair R i = false := by
  unfold badPair
  rw [List.any_eq_false]
  intro s hs
  obtain ⟨j, hj, rfl⟩ := List.mem_iff_getElem.1 hs
  rw [List.length_drop] at hj
  rw [List.getElem_drop]
  have := h (i + 1 + j) (by omega) (by omega)
  rw [List.getD_eq_getElem?_getD (l := R) (i := i + 1 + j), List.getElem?_eq_getElem (by omega), Option.getD_some] at this
  rw [this]
  simp
theorem three_stepB {W w1 w2 : World} {B1 B2 B3 o1 o2 o3 : Nat} {v1 v2 v3 : Value} (hb : Below w1.heap.size w1 w2)
    (h1 : w1.cell? ⟨B1, o1, none⟩ = some v1) (h2 : w1.cell? ⟨B2, o2, none⟩ = some v2) (h3 : w1.cell? ⟨B3, o3, none⟩ = some v3) (h7 : Below W.heap.size W w1) :
    w2.cell? ⟨B1, o1, none⟩ = some v1 ∧ w2.cell? ⟨B2, o2, none⟩ = some v2 ∧ w2.cell? ⟨B3, o3, none⟩ = some v3 ∧ Below W.heap.size W w2 :=
  ⟨(hb.cell (p := ⟨B1, o1, none⟩) (block_lt_of_cell h1)).trans h1, (hb.cell (p := ⟨B2, o2, none⟩) (block_lt_of_cell h2)).trans h2, (hb.cell (p := ⟨B3, o3, none⟩) (block_lt_of_cell h3)).trans h3, h7.trans (hb.mono h7.size)⟩
set_option maxRecDepth 100000 in
set_option maxHeartbeats 8000000 in
theorem rRegionCheck_of (hring : ∀ (ao : Option Addr) (n cap : Nat) (P : List Pt) (w : World), IsPts w ao n cap P → Calls Tryz.prog 36 #[.slice ao n cap] w fun e w' => e = .returned (faultV (ringCheckP P)) ∧ Below w.heap.size w w')
    (ao : Option Addr) (n cap : Nat) (R : List (List Pt)) (w : World) (h : IsRings w ao n cap R) (hs : sumLen R ≤ 1000000000000) :
    Calls Tryz.prog 17 #[.agg #[.slice ao n cap]] w fun e w' => e = .returned (faultV (regionCheckP R)) ∧ Below w.heap.size w w' := by
  have HI := Lib.hid h
  have HRI := Lib.hid hring
  have HS := Lib.hid hs
  have hcm := h.2.2.1
  have hnc := h.2.1
  have HL := Lib.hid h.1
  unfold maxLen at hcm
  obtain ⟨W0, hW0⟩ : ∃ W, W = (w.alloc (.cells #[.slice ao n cap] 24)).alloc (.cells #[.int .i64 0, .int .i64 0] 33) := ⟨_, rfl⟩
  have a0 : W0.heap[w.heap.size]? = some (.cells #[.slice ao n cap] 24 (0, 0)) := by rw [hW0]; exact (Below.heap_alloc _ _ _ (by simp)).trans (alloc_new _ _)
  have a1 : W0.heap[w.heap.size + 1]? = some (.cells #[.int .i64 0, .int .i64 0] 33 (0, 0)) := by rw [hW0]; exact alloc_new2 _ _ _
  have hs0 : W0.heap.size = w.heap.size + 2 := by rw [hW0]; simp
  have hg0 : Below w.heap.size w W0 := by rw [hW0]; exact ((Below.refl _ _).alloc (Nat.le_refl _) _).alloc (by simp) _
  have H0 := Lib.hid (And.intro a0 (And.intro a1 (And.intro hs0 hg0)))
  have c0 : W0.cell? ⟨w.heap.size, 0, none⟩ = some (.slice ao n cap) := cell_of_row _ _ _ _ _ _ a0
  have HC : Hid (∀ wr, Below W0.heap.size W0 wr → wr.cell? ⟨w.heap.size, 0, none⟩ = some (.slice ao n cap)) := Lib.hid (fun wr hb => cell_of_row _ _ _ _ _ _ ((hb.block w.heap.size (by omega)).trans a0))
  have HIW : Hid (∀ wr, Below W0.heap.size W0 wr → IsRings wr ao n cap R) := Lib.hid (fun wr hb => (h.later hg0 (Nat.le_refl _)).later hb (Nat.le_refl _))
  rw [hW0] at c0
  clear h hs a0 a1 hs0 hg0 hring
  obtain ⟨fx, hfx⟩ : ∃ f, f = regionCheckP R := ⟨_, rfl⟩
  rw [← hfx]
  have HFX := Lib.hid hfx
  clear hfx
  by_cases hlong : 20 < n
  · have hl1 : (20 : Int) < (n : Int) := by omega
    have hres : Hid (fx = (3, 0)) := Lib.hid (by rw [HFX.out]; unfold regionCheckP; rw [HL.out, if_pos hlong])
    clear hW0
    go_enter Tryz.func17, Tryz.ntmps17
    go_wp2_with fail
    first
    | exact bodyPost_ret (results_cell_row rfl _ _ _ _ _ _ _ rfl (alloc_new2 _ _ _) Tryz.underlying33 rfl (by kernel_rfl)) rfl ⟨by rw [hres.out]; rfl, ((Below.refl _ _).alloc (Nat.le_refl _) _).alloc (by simp) _⟩
    | (trace_state; sorry)
  · have hl1 : ¬ (20 : Int) < (n : Int) := by omega
    by_cases hzero : n = 0
    · subst hzero
      have hres : Hid (fx = (2, 0)) := Lib.hid (by rw [HFX.out]; unfold regionCheckP; rw [HL.out]; rfl)
      clear hW0
      go_enter Tryz.func17, Tryz.ntmps17
      go_wp2_with fail
      first
      | exact bodyPost_ret (results_cell_row rfl _ _ _ _ _ _ _ rfl (alloc_new2 _ _ _) Tryz.underlying33 rfl (by kernel_rfl)) rfl ⟨by rw [hres.out]; rfl, ((Below.refl _ _).alloc (Nat.le_refl _) _).alloc (by simp) _⟩
      | (trace_state; sorry)
    · have hl2 : ((n : Int) == 0) = false := by simp; omega
      have hn0 : 0 < n := by omega
      have HN : Hid (¬ 20 < n ∧ ¬ n = 0) := Lib.hid ⟨hlong, hzero⟩
      clear hlong hzero
      go_enter Tryz.func17, Tryz.ntmps17
      go_wp2_with fail
      rw [← hW0]
      clear hW0 c0
      go_loopw [3, 4] (fun s i wr => ∃ k : Nat, k ≤ n ∧ i = .int .i64 k ∧ (∃ t : Nat, s = .int .i64 t ∧ Hid (t = sumLen (R.take k))) ∧ wr = W0) (fun s i _ => n - (intOf i).toNat)
      case atStart => exact ⟨0, by omega, rfl, ⟨0, rfl, rfl⟩, rfl⟩
      case round =>
        obtain ⟨k, hk, rfl, ⟨t, rfl, ht⟩, rfl⟩ := hrel
        have htb : (t : Int) ≤ 1000000000000 := by have h1 := sumLen_take_le R k; have h2 := HS.out; have h3 := ht.out; omega
        have ht0 : (0 : Int) ≤ (t : Int) := by omega
        have c1 := HC.out wr (Below.refl _ _)
        by_cases hlt : k < n
        · have hi0 : (0 : Int) ≤ (k : Int) := by omega
          have hi5 : (k : Int) < (n : Int) := by omega
          obtain ⟨b, off, x, y, z, rfl, e0, hp⟩ := (HIW.out wr (Below.refl _ _)).2.2.2.2 k hlt
          have hy : (y : Int) ≤ 1000000000000 := by
            have h1 := hp.1
            have h2 := sumLen_get (g := R) (k := k) (by rw [HL.out]; exact hlt)
            have h3 := HS.out
            omega
          have hy0 : (0 : Int) ≤ (y : Int) := by omega
          have HT : Hid (t + y = sumLen (R.take (k + 1))) := Lib.hid (by rw [sumLen_take (by rw [HL.out]; exact hlt), ← ht.out, hp.1])
          clear hp
          go_wp2_with fail
          go_roundw
          case rel => exact ⟨k + 1, by omega, by go_num, ⟨t + y, by go_num, HT⟩, by first | trivial | rfl⟩
          case measure => simp [intOf]; omega
        · obtain rfl : n = k := by omega
          have hi5 : ¬ ((n : Int) < (n : Int)) := by omega
          have HT : Hid (t = sumLen R) := Lib.hid (by have := ht.out; rw [List.take_of_length_le (by rw [HL.out]; exact Nat.le_refl _)] at this; exact this)
          clear ht
          by_cases h3 : 400 < t
          · have t3 : (400 : Int) < (t : Int) := by omega
            have hres : Hid (fx = (211, 0)) := Lib.hid (by rw [HFX.out]; unfold regionCheckP; rw [HL.out, if_neg HN.out.1, if_neg HN.out.2, ← HT.out, if_pos h3])
            obtain ⟨k0, k1, f0, f1, HG⟩ := fault_cellsR H0.out.2.2.1 H0.out.2.2.2 H0.out.2.1 (Below.refl _ _)
            clear h3
            go_wp2_with fail
            exact fault_endG (Nat.le_succ _) rfl rfl rfl HG rfl hres.out
          · have t3 : ¬ (400 : Int) < (t : Int) := by omega
            have HSZ : Hid (sizeRP R.length (sumLen R) = 0) := Lib.hid (by unfold sizeRP; rw [HL.out, if_neg HN.out.1, if_neg HN.out.2, ← HT.out, if_neg h3])
            clear h3
            go_wp2_with fail
            obtain ⟨wA, hwA⟩ : ∃ x, x = wr := ⟨_, rfl⟩
            subst hwA
            go_loopw [5] (fun i wr => ∃ k : Nat, k ≤ n ∧ i = .int .i64 k ∧ Hid (∀ j, j < k → badRing R j = false) ∧ Hid (Below wA.heap.size wA wr)) (fun i _ => n - (intOf i).toNat)
            case atStart => exact ⟨0, by omega, rfl, Lib.hid (fun j hj => absurd hj (by omega)), Below.refl _ _⟩
            case round =>
              clear c1
              obtain ⟨k, hk, rfl, hq, hb⟩ := hrel
              have c1 := HC.out wr hb.out
              by_cases hlt : k < n
              · have hi0 : (0 : Int) ≤ (k : Int) := by omega
                have hi5 : (k : Int) < (n : Int) := by omega
                obtain ⟨b, off, x, y, z, rfl, e0, hp⟩ := (HIW.out wr hb.out).2.2.2.2 k hlt
                have HCR := Lib.hid (HRI.out x y z (R.getD k []) wr hp)
                have hbr : badRing R k = decide ((ringCheckP (R.getD k [])).1 ≠ 0) := rfl
                obtain ⟨f, hf⟩ : ∃ f, f = ringCheckP (R.getD k []) := ⟨_, rfl⟩
                rw [← hf] at HCR hbr
                have HBR := Lib.hid hbr
                have HF := Lib.hid hf
                obtain ⟨f, g⟩ := f
                clear hp hbr hf
                unfold faultV at HCR
                dsimp only at HCR
                go_wp2_with fail
                refine HCR.out.mono ?_
                rintro e w2 ⟨rfl, hb2⟩
                have hb3 : Below wA.heap.size wA (w2.alloc (.cells #[.int .i64 f, .int .i64 g] 33)) := (hb.out.trans (hb2.mono hb.out.size)).alloc (Nat.le_trans hb.out.size hb2.size) _
                have HB3 := Lib.hid hb3
                clear hb2 e0 c1
                by_cases hz : f = 0
                · subst hz
                  clear hb3
                  go_wp2_with fail
                  go_roundw
                  case rel =>
                    refine ⟨k + 1, by omega, by go_num, Lib.hid fun j hj => ?_, HB3⟩
                    by_cases hik : j < k
                    · exact hq.out j hik
                    · obtain rfl : j = k := by omega
                      rw [HBR.out]; rfl
                  case measure => simp [intOf]; omega
                · obtain ⟨k0, k1, f0, f1, HG⟩ := fault_cellsR H0.out.2.2.1 H0.out.2.2.2 H0.out.2.1 hb3
                  have hzz : (f == 0) = false := by simp [hz]
                  have hzz2 : (f != 0) = true := by simp [hz]
                  have HNZ := Lib.hid hz
                  clear hz hb3
                  go_wp2_with fail
                  refine fault_endG (Nat.le_succ _) rfl rfl rfl HG rfl ?_
                  rw [HFX.out, regionCheck_ring HSZ.out (by rw [HL.out]; exact hlt) hq.out (by rw [HBR.out]; exact decide_eq_true HNZ.out), ← HF.out]
              · have hkn : n = k := by omega
                subst hkn
                have HRC : Hid (fx = match firstP R.length (badPair R) with
                  | some i => (210, (i : Int))
                  | none => (0, 0)) := Lib.hid (by rw [HFX.out]; exact regionCheck_rest HSZ.out (by rw [HL.out]; exact hq.out))
                clear hq
                go_wp2_with fail
                go_loopw [7] (fun i wr => ∃ j : Nat, j ≤ n ∧ i = .int .i64 j ∧ Hid (∀ t, t < j → badPair R t = false) ∧ Hid (Below wA.heap.size wA wr)) (fun i _ => n - (intOf i).toNat)
                case atStart => exact ⟨0, by omega, rfl, Lib.hid (fun j hj => absurd hj (by omega)), hb⟩
                case round =>
                  clear c1 hb
                  obtain ⟨j, hj, rfl, hq, hb⟩ := hrel
                  have c1 := HC.out wr hb.out
                  by_cases hlt : j < n
                  · have hj0 : (0 : Int) ≤ (j : Int) := by omega
                    have hj5 : (j : Int) < (n : Int) := by omega
                    have hwj : IntKind.i64.wrap ((j : Int) + 1) = (j : Int) + 1 := IntWalk.i64_in _ (by omega)
                    go_wp2_with fail
                    obtain ⟨wB, hwB⟩ : ∃ x, x = wr := ⟨_, rfl⟩
                    subst hwB
                    go_loopw [8] (fun i wr => ∃ k : Nat, j + 1 ≤ k ∧ k ≤ n ∧ i = .int .i64 k ∧ Hid (∀ t, j < t → t < k → ringsMeet (R.getD j []) (R.getD t []) = false) ∧ Hid (Below wA.heap.size wA wr)) (fun i _ => n - (intOf i).toNat)
                    case atStart => exact ⟨j + 1, Nat.le_refl _, by omega, by go_num, Lib.hid (fun t h1 h2 => absurd h2 (by omega)), hb⟩
                    case round =>
                      clear c1
                      obtain ⟨k, hk1, hk2, rfl, hno, hb2⟩ := hrel
                      have c1 := HC.out wr hb2.out
                      by_cases hlt2 : k < n
                      · have hk0 : (0 : Int) ≤ (k : Int) := by omega
                        have hk5 : (k : Int) < (n : Int) := by omega
                        have hrs := HIW.out wr hb2.out
                        obtain ⟨b, off, x, y, z, rfl, e0, hp⟩ := hrs.2.2.2.2 j hlt
                        obtain ⟨b', off', x', y', z', hbo, e1, hp'⟩ := hrs.2.2.2.2 k hlt2
                        cases hbo
                        have hM : ∀ wX, Below wr.heap.size wr wX → _ := fun wX hX => rmeet_any x y z (R.getD j []) x' y' z' (R.getD k []) wX (hp.later hX (Nat.le_refl _)) (hp'.later hX (Nat.le_refl _))
                        obtain ⟨v, hv⟩ : ∃ v, v = ringsMeet (R.getD j []) (R.getD k []) := ⟨_, rfl⟩
                        rw [← hv] at hM
                        have HM := Lib.hid hM
                        have HV := Lib.hid hv
                        clear hM hv hrs hp hp'
                        go_wp2_with fail
                        go_region_held3 (fun w' => w'.cell? ⟨w.heap.size, 0, none⟩ = some (.slice (some ⟨b, off, none⟩) n cap) ∧ w'.cell? ⟨b, off + j, none⟩ = some (.slice x y z) ∧ w'.cell? ⟨b, off + k, none⟩ = some (.slice x' y' z') ∧ Below wr.heap.size wr w')
                          (first
                            | (exact ⟨c1, e0, e1, (Below.refl _ _).drew⟩)
                            | (go_split_ands; refine three_stepB hgr ?_ ?_ ?_ ?_; all_goals assumption))
                          (first
                            | (go_at_call 37; go_split_ands; refine (HM.out _ (by assumption)).mono ?_; rintro e wC ⟨rfl, hgr⟩)
                            | fail)
                        have HB : Hid (Below wr.heap.size wr wC) := Lib.hid (by first | assumption | (go_split_ands; assumption))
                        have HBA : Hid (Below wA.heap.size wA wC) := Lib.hid (hb2.out.trans (HB.out.mono hb2.out.size))
                        clear e0 e1 c1 HB
                        cases v with
                        | true =>
                          obtain ⟨k0, k1, f0, f1, HG⟩ := fault_cellsR H0.out.2.2.1 H0.out.2.2.2 H0.out.2.1 HBA.out
                          go_wp2_with fail
                          refine fault_endG (Nat.le_succ _) rfl rfl rfl HG rfl ?_
                          rw [HRC.out, firstP_some (by rw [HL.out]; exact hlt) (badPair_true (show j < k by omega) (by rw [HL.out]; exact hlt2) HV.out.symm) hq.out]
                        | false =>
                          go_wp2_with fail
                          go_roundw
                          case rel =>
                            refine ⟨k + 1, by omega, by omega, by go_num, Lib.hid fun t h1 h2 => ?_, HBA⟩
                            by_cases hik : t < k
                            · exact hno.out t h1 hik
                            · obtain rfl : t = k := by omega
                              exact HV.out.symm
                          case measure => simp [intOf]; omega
                      · have hkn : n = k := by omega
                        subst hkn
                        have HBP : Hid (badPair R j = false) := Lib.hid (badPair_false (fun k h1 h2 => hno.out k h1 (by rw [← HL.out]; exact h2)))
                        clear hno
                        go_wp2_with fail
                        go_roundw
                        case rel =>
                          refine ⟨j + 1, by omega, by go_num, Lib.hid fun t ht => ?_, hb2⟩
                          by_cases hik : t < j
                          · exact hq.out t hik
                          · obtain rfl : t = j := by omega
                            exact HBP.out
                        case measure => simp [intOf]; omega
                  · have hjn : n = j := by omega
                    subst hjn
                    obtain ⟨k0, k1, f0, f1, HG⟩ := fault_cellsR H0.out.2.2.1 H0.out.2.2.2 H0.out.2.1 hb.out
                    go_wp2_with fail
                    refine fault_endG (Nat.le_succ _) rfl rfl rfl HG rfl ?_
                    rw [HRC.out, firstP_none (by rw [HL.out]; exact hq.out)]
end Go.Proofs.YtgijaaklhdcgeaaGreat

/- the kit's OwnRegion, EqualRegion; the law's big; the document's Check in full -/
set_option linter.unusedSimpArgs false
set_option linter.unusedVariables false
namespace Go.Proofs.YtgijaaklhdcgeaaGreat
open Go.RowKit Go.Geo
attribute [local go_sem] Oper.semAt_some
theorem rCheck_ring (ao : Option Addr) (n cap : Nat) (P : List Pt) (w : World) (h : IsPts w ao n cap P) :
    Calls Tryz.prog 36 #[.slice ao n cap] w fun e w' => e = .returned (faultV (ringCheckP P)) ∧ Below w.heap.size w w' :=
  rCheck_of ao n cap P w h (fun k hk wX hX h3 hb => rback_any ao n cap P k wX hX hk h3 hb)
theorem rCheck_region (ao : Option Addr) (n cap : Nat) (R : List (List Pt)) (w : World) (h : IsRings w ao n cap R) (hs : sumLen R ≤ 1000000000000) :
    Calls Tryz.prog 17 #[.agg #[.slice ao n cap]] w fun e w' => e = .returned (faultV (regionCheckP R)) ∧ Below w.heap.size w w' :=
  rRegionCheck_of rCheck_ring ao n cap R w h hs
set_option maxRecDepth 100000 in
theorem OwnRegion_any (ao : Option Addr) (n cap : Nat) (R : List (List Pt)) (w : World) (h : IsRings w ao n cap R) (hs : Small R) :
    Calls Tryz.prog 5 #[.agg #[.slice ao n cap]] w fun e w' => ∃ v, e = .returned (.agg #[v]) ∧ OwnR w' w.heap.size v R ∧ Below w.heap.size w w' := by
  obtain ⟨W0, hW0⟩ : ∃ W, W = (w.alloc (.cells #[.slice ao n cap] 24)).alloc (.cells #[.slice none 0 0] 24) := ⟨_, rfl⟩
  have a0 : W0.heap[w.heap.size]? = some (.cells #[.slice ao n cap] 24 (0, 0)) := by rw [hW0]; exact (Below.heap_alloc _ _ _ (by simp)).trans (alloc_new _ _)
  have a1 : W0.heap[w.heap.size + 1]? = some (.cells #[.slice none 0 0] 24 (0, 0)) := by rw [hW0]; exact alloc_new2 _ _ _
  have hs0 : W0.heap.size = w.heap.size + 2 := by rw [hW0]; simp
  have hg0 : Below w.heap.size w W0 := by rw [hW0]; exact ((Below.refl _ _).alloc (Nat.le_refl _) _).alloc (by simp) _
  have c0 : W0.cell? ⟨w.heap.size, 0, none⟩ = some (.slice ao n cap) := cell_of_row _ _ _ _ _ _ a0
  have HC := Lib.hid (CopyRings_any ao n cap R W0 (h.later hg0 (Nat.le_refl _)) hs)
  have H0 := Lib.hid (And.intro a1 (And.intro hs0 hg0))
  rw [hW0] at c0
  clear h hs a0 a1 hs0 hg0
  go_enter Tryz.func5, Tryz.ntmps5
  go_wp2_with fail
  rw [← hW0]
  clear hW0 c0
  refine HC.out.mono ?_
  rintro e w1 ⟨v, rfl, ho, hb⟩
  have hr := (hb.block (w.heap.size + 1) (by rw [H0.out.2.1]; omega)).trans H0.out.1
  have k0 : w1.cell? ⟨w.heap.size + 1, 0, none⟩ = some (.slice none 0 0) := cell_of_row _ _ _ _ _ _ hr
  have f0 : w1.frozen? ⟨w.heap.size + 1, 0, none⟩ = false := frozen_of_row _ _ _ _ _ hr
  have HR := Lib.hid hr
  have H1 := Lib.hid (And.intro ho hb)
  obtain ⟨ax, cx, hv, _⟩ := ho.rings
  subst hv
  clear hr ho hb
  go_wp2_with fail
  have hput := heap_setCell_same _ _ 0 _ _ (.slice ax R.length cx) HR.out
  refine bodyPost_ret (results_cell_row rfl _ _ _ _ _ _ _ rfl hput Tryz.underlying24 rfl (by kernel_rfl)) rfl ⟨_, rfl, ?_, ?_⟩
  · exact (H1.out.1.base (by rw [H0.out.2.1]; omega)).setCell HR.out (by decide) (by decide)
  · exact (H0.out.2.2.trans (H1.out.2.mono H0.out.2.2.size)).setCell (p := ⟨w.heap.size + 1, 0, none⟩) (by simp) _
set_option maxRecDepth 100000 in
theorem EqualRegion_any (ao : Option Addr) (n cap : Nat) (bo : Option Addr) (cap2 : Nat) (R : List (List Pt)) (w : World) (h : IsRings w ao n cap R) (h2 : IsRings w bo n cap2 R) :
    Calls Tryz.prog 8 #[.agg #[.slice ao n cap], .agg #[.slice bo n cap2]] w fun e w' => e = .returned (.bool true) ∧ Below w.heap.size w w' := by
  obtain ⟨W0, hW0⟩ : ∃ W, W = (w.alloc (.cells #[.slice ao n cap] 24)).alloc (.cells #[.slice bo n cap2] 24) := ⟨_, rfl⟩
  have a0 : W0.heap[w.heap.size]? = some (.cells #[.slice ao n cap] 24 (0, 0)) := by rw [hW0]; exact (Below.heap_alloc _ _ _ (by simp)).trans (alloc_new _ _)
  have a1 : W0.heap[w.heap.size + 1]? = some (.cells #[.slice bo n cap2] 24 (0, 0)) := by rw [hW0]; exact alloc_new2 _ _ _
  have hg0 : Below w.heap.size w W0 := by rw [hW0]; exact ((Below.refl _ _).alloc (Nat.le_refl _) _).alloc (by simp) _
  have c0 : W0.cell? ⟨w.heap.size, 0, none⟩ = some (.slice ao n cap) := cell_of_row _ _ _ _ _ _ a0
  have c1 : W0.cell? ⟨w.heap.size + 1, 0, none⟩ = some (.slice bo n cap2) := cell_of_row _ _ _ _ _ _ a1
  have HC := Lib.hid (SameRings_any ao n cap bo cap2 R W0 (h.later hg0 (Nat.le_refl _)) (h2.later hg0 (Nat.le_refl _)))
  have H0 := Lib.hid hg0
  rw [hW0] at c0 c1
  clear h h2 a0 a1 hg0
  go_enter Tryz.func8, Tryz.ntmps8
  go_wp2_with fail
  rw [← hW0]
  clear hW0 c0 c1
  refine HC.out.mono ?_
  rintro e w1 ⟨rfl, q, rfl⟩
  go_wp2_with fail
  go_ret
  exact ⟨rfl, below_drewN H0.out q⟩
set_option maxRecDepth 100000 in
theorem bigLaw_any (ao : Option Addr) (n cap : Nat) (R : List (List Pt)) (w : World) (h : IsRings w ao n cap R) (hk : Kept R) :
    Calls Tryz.prog 4 #[.agg #[.slice ao n cap]] w fun e w' => e = .returned (.bool (largeR R 30 450)) ∧ Below w.heap.size w w' := by
  have hg0 : Grew w (w.alloc (.cells #[.slice ao n cap] 24)) := (Grew.refl _).alloc _
  have HC := Lib.hid (LargeRegion_any ao n cap R 30 450 _ (h.later hg0.1 (Nat.le_refl _)) hk (by omega) (by omega))
  have H0 := Lib.hid hg0
  have c0 : (w.alloc (.cells #[.slice ao n cap] 24)).cell? ⟨w.heap.size, 0, none⟩ = some (.slice ao n cap) := alloc_cell _ _ _
  obtain ⟨q, hq⟩ : ∃ q, q = largeR R 30 450 := ⟨_, rfl⟩
  rw [← hq] at HC ⊢
  clear h hk hg0 hq
  go_enter Tryz.func4, Tryz.ntmps4
  go_wp2_with fail
  refine HC.out.mono ?_
  rintro e w1 ⟨rfl, hg⟩
  have H1 := Lib.hid (H0.out.trans hg)
  clear hg c0
  go_wp2_with fail
  go_ret
  exact ⟨rfl, H1.out.1⟩
end Go.Proofs.YtgijaaklhdcgeaaGreat

/- slices.Grow, slices.Concat of points; region.Box -/
set_option linter.unusedSimpArgs false
set_option linter.unusedVariables false
namespace Go.Proofs.YtgijaaklhdcgeaaGreat
open Go.RowKit Go.Geo Go.Lib
attribute [local go_sem] Oper.semAt_some
set_option maxRecDepth 100000 in
set_option maxHeartbeats 4000000 in
theorem Grow_pts (n : Nat) (w : World) (hn : n ≤ 1000000) :
    Calls Tryz.prog 105 #[.slice none 0 0, .int .i64 n] w fun e w' => ∃ v, e = .returned v ∧ OwnP w' w.heap.size v [] ∧ Below w.heap.size w w' := by
  have hn9 : (n : Int) ≤ 1000000 := by omega
  have hn0 : (0 : Int) ≤ (n : Int) := by omega
  by_cases h0 : n = 0
  · subst h0
    go_enter Tryz.func105, Tryz.ntmps105
    go_wp2
    go_ret
    exact ⟨_, rfl, OwnP.nil _ _, Below.refl _ _⟩
  · obtain ⟨i0, hi, hz0, hz1, hz2⟩ := info_parts' Tryz.infoPt
    have hrz : ∀ ty, (Builtin.append_ #[36, 3] ty #[.slice none 0 0, .int .i64 (n : Int)]).run Tryz.prog w =
        .ok (.slice (some ⟨w.heap.size, 0, none⟩) n (grownCap w n 0 40)) (w.drew.alloc (.cells (([] : List Value).toArray ++ Builtin.zeroCells (Value.agg #[.int .i64 0, .int .i64 0]).cells n ++ Builtin.zeroCells (Value.agg #[.int .i64 0, .int .i64 0]).cells (grownCap w n 0 40 - n)) 40)) := fun ty => by
      have h := Lib.run_append_grow_zeros w 36 3 ty 40 i0 (.agg #[.int .i64 0, .int .i64 0]) .i64 .i64 Tryz.underlying36 Tryz.underlying3 hi hz0 none 0 0 [] (by rw [hz1]; exact run_firstCells_none w.drew 2 0 0 0) n (by omega) (by rw [hz1]; decide) (by omega) (by omega)
        (by rw [hz2]; omega) (by rw [hz2]; exact growslice_fits (by omega) (by omega))
      rw [Nat.zero_add] at h
      exact h
    have hGn : n ≤ grownCap w n 0 40 := grownCap_ge w _ _ _
    obtain ⟨G, hG⟩ : ∃ G, G = grownCap w n 0 40 := ⟨_, rfl⟩
    rw [← hG] at hrz hGn
    have hG63 : G ≤ 9223372036854775807 := by
      have := grownCap_le_maxLen w n 0 40 (by unfold maxLen; omega)
      rw [← hG] at this
      unfold maxLen at this
      omega
    have hnn : (0 : Int) < (n : Int) := by omega
    clear hG
    go_enter Tryz.func105, Tryz.ntmps105
    go_wp2_with (at_builtin; refine Lib.wpList_append_run _ rfl _ _ _ _ rfl _ _ rfl rfl _ _ (hrz _) ?_)
    go_ret
    refine ⟨_, rfl, ⟨rfl, .inr ⟨w.heap.size, G, _, rfl, Nat.le_refl _, alloc_new w.drew _, Nat.zero_le _, by unfold maxLen; omega, ?_, rfl⟩⟩, ((Below.refl _ _).drew).alloc (Nat.le_refl _) _⟩
    rw [Array.size_append, size_zeroCells, size_zeroCells]
    show n * 2 + (G - n) * 2 = G * 2
    omega
theorem flatten_take {R : List (List Pt)} {k : Nat} (h : k < R.length) : (R.take (k + 1)).flatten = (R.take k).flatten ++ R.getD k [] := by
  rw [take_more (d := []) h, List.flatten_append]
  simp
set_option maxRecDepth 100000 in
set_option maxHeartbeats 4000000 in
theorem Concat_pts (ao : Option Addr) (n cap : Nat) (R : List (List Pt)) (w : World) (h : IsRings w ao n cap R) (hs : sumLen R ≤ 1000000) :
    Calls Tryz.prog 81 #[.slice ao n cap] w fun e w' => ∃ v, e = .returned v ∧ OwnP w' w.heap.size v R.flatten ∧ Below w.heap.size w w' := by
  have HI := Lib.hid h
  have HS := Lib.hid hs
  have hcm := h.2.2.1
  have hnc := h.2.1
  have HL := Lib.hid h.1
  unfold maxLen at hcm
  have HG := Lib.hid (Grow_pts (sumLen R) w hs)
  clear h hs
  go_enter Tryz.func81, Tryz.ntmps81
  go_wp2_with fail
  go_loopw [3, 11] (fun s i wr => ∃ k : Nat, k ≤ n ∧ i = .int .i64 k ∧ (∃ t : Nat, s = .int .i64 t ∧ Hid (t = sumLen (R.take k))) ∧ w = wr) (fun s i _ => n - (intOf i).toNat)
  case atStart => exact ⟨0, by omega, rfl, ⟨0, rfl, rfl⟩, rfl⟩
  case round =>
    obtain ⟨k, hk, rfl, ⟨t, rfl, ht⟩, rfl⟩ := hrel
    have htb : (t : Int) ≤ 1000000 := by have h1 := sumLen_take_le R k; have h2 := HS.out; have h3 := ht.out; omega
    have ht0 : (0 : Int) ≤ (t : Int) := by omega
    by_cases hlt : k < n
    · have hi0 : (0 : Int) ≤ (k : Int) := by omega
      have hi5 : (k : Int) < (n : Int) := by omega
      obtain ⟨b, off, x, y, z, rfl, e0, hp⟩ := HI.out.2.2.2.2 k hlt
      have hy : (y : Int) ≤ 1000000 := by
        have h1 := hp.1
        have h2 := sumLen_get (g := R) (k := k) (by rw [HL.out]; exact hlt)
        have h3 := HS.out
        omega
      have hy0 : (0 : Int) ≤ (y : Int) := by omega
      have HT : Hid (t + y = sumLen (R.take (k + 1))) := Lib.hid (by rw [sumLen_take (by rw [HL.out]; exact hlt), ← ht.out, hp.1])
      have hneg : decide ((t : Int) + (y : Int) < 0) = false := decide_eq_false (by omega)
      clear hp
      go_wp2_with fail
      go_roundw
      case rel => exact ⟨k + 1, by omega, by go_num, ⟨t + y, by go_num, HT⟩, by first | trivial | rfl⟩
      case measure => simp [intOf]; omega
    · obtain rfl : n = k := by omega
      have hi5 : ¬ ((n : Int) < (n : Int)) := by omega
      have htt : t = sumLen R := by have := ht.out; rw [List.take_of_length_le (by rw [HL.out]; exact Nat.le_refl _)] at this; exact this
      have HG := HG
      rw [← htt] at HG
      clear htt
      go_wp2_with fail
      refine HG.out.mono ?_
      rintro e w1 ⟨v1, rfl, ho1, hb1⟩
      have H1 := Lib.hid (And.intro ho1 hb1)
      clear ho1 hb1
      go_wp2_with fail
      go_loopw [6, 27] (fun v i wr => ∃ k : Nat, k ≤ n ∧ i = .int .i64 k ∧ Hid (OwnP wr w.heap.size v (R.take k).flatten) ∧ Hid (Below w.heap.size w wr)) (fun _ i _ => n - (intOf i).toNat)
      case atStart => exact ⟨0, by omega, rfl, H1.out.1, H1.out.2⟩
      case round =>
        obtain ⟨k, hk, rfl, hown, hbl⟩ := hrel
        by_cases hlt : k < n
        · have hi0 : (0 : Int) ≤ (k : Int) := by omega
          have hi5 : (k : Int) < (n : Int) := by omega
          obtain ⟨b, off, x, y, z, rfl, e0, hp⟩ := (HI.out.later hbl.out (Nat.le_refl _)).2.2.2.2 k hlt
          have HP := Lib.hid hp
          have HT : Hid ((R.take (k + 1)).flatten = (R.take k).flatten ++ R.getD k []) := Lib.hid (flatten_take (by rw [HL.out]; exact hlt))
          have HLN : Hid ((R.take k).flatten.length + y ≤ 1000000000) := Lib.hid (by
            have h1 := sumLen_take_le R k
            have h2 := sumLen_get (g := R) (k := k) (by rw [HL.out]; exact hlt)
            have h3 := HS.out
            have h4 := hp.1
            rw [sumLen_flatten]
            omega)
          clear hp
          go_wp2_with (at_builtin; refine wpList_append_pts rfl _ _ rfl w.heap.size _ (R.take k).flatten rfl hown.out _ _ _ (R.getD k []) rfl HP.out HLN.out hbl.out.size ?_
                       intro v5 w5 hown5 hg5
                       have H5 := Lib.hid (And.intro hown5 (hbl.out.grown hg5 hbl.out.size (fun k hk => (hown.out.lt k hk).1)))
                       clear hown5 hg5)
          go_roundw
          case rel => exact ⟨k + 1, by omega, by go_num, by rw [HT.out]; exact H5.out.1, H5.out.2⟩
          case measure => simp [intOf]; omega
        · obtain rfl : n = k := by omega
          have hi5 : ¬ ((n : Int) < (n : Int)) := by omega
          go_wp2_with fail
          go_ret
          refine ⟨_, rfl, ?_, hbl.out⟩
          have := hown.out
          rw [List.take_of_length_le (by rw [HL.out]; exact Nat.le_refl _)] at this
          exact this
end Go.Proofs.YtgijaaklhdcgeaaGreat
