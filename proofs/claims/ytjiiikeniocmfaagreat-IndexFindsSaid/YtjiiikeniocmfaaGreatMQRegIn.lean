/- the document's region: Check, the ring's Check given -/
import Derived.Test.YtjiiikeniocmfaaGreatMR11b
import Derived.Test.YtjiiikeniocmfaaGreatMQRCheck
import Derived.Test.YtjiiikeniocmfaaGreatMR7b
import Derived.Test.YtjiiikeniocmfaaGreatMQBnd
import Derived.Test.YtjiiikeniocmfaaGreatMQUnlike
import Derived.Test.YtjiiikeniocmfaaGreatMGeo8
import Derived.Test.YtjiiikeniocmfaaGreatMQConcat
import Derived.Test.YtjiiikeniocmfaaGreatMR10
set_option linter.unusedSimpArgs false
set_option linter.unusedVariables false
namespace Go.Proofs.YtjiiikeniocmfaaGreat
open Go.RowKit Go.Shelf Go.Geo
attribute [local go_sem] Oper.semAt_some
theorem badPair_true {R : List (List Pt)} {i k : Nat} (h1 : i < k) (h2 : k < R.length) (h : ringsMeet (R.getD i []) (R.getD k []) = true) : badPair R i = true := by
  unfold badPair
  rw [List.any_eq_true]
  refine ⟨R.getD k [], ?_, h⟩
  rw [List.getD_eq_getElem?_getD, List.getElem?_eq_getElem h2, Option.getD_some]
  rw [List.mem_iff_getElem]
  refine ⟨k - (i + 1), by rw [List.length_drop]; omega, ?_⟩
  rw [List.getElem_drop]
  congr 1
  omega
theorem badPair_false {R : List (List Pt)} {i : Nat} (h : ∀ k, i < k → k < R.length → ringsMeet (R.getD i []) (R.getD k []) = false) : badPair R i = false := by
  unfold badPair
  rw [List.any_eq_false]
  intro s hs
  obtain ⟨j, hj, rfl⟩ := List.mem_iff_getElem.1 hs
  rw [List.length_drop] at hj
  rw [List.getElem_drop]
  have := h (i + 1 + j) (by omega) (by omega)
  rw [List.getD_eq_getElem?_getD (l := R) (i := i + 1 + j), List.getElem?_eq_getElem (by omega), Option.getD_some] at this
  rw [this]
  simp
theorem three_stepB {W w1 w2 : World} {B1 B2 B3 o1 o2 o3 : Nat} {v1 v2 v3 : Value} (hb : Below w1.heap.size w1 w2)
    (h1 : w1.cell? ⟨B1, o1, none⟩ = some v1) (h2 : w1.cell? ⟨B2, o2, none⟩ = some v2) (h3 : w1.cell? ⟨B3, o3, none⟩ = some v3) (h7 : Below W.heap.size W w1) :
    w2.cell? ⟨B1, o1, none⟩ = some v1 ∧ w2.cell? ⟨B2, o2, none⟩ = some v2 ∧ w2.cell? ⟨B3, o3, none⟩ = some v3 ∧ Below W.heap.size W w2 :=
  ⟨(hb.cell (p := ⟨B1, o1, none⟩) (block_lt_of_cell h1)).trans h1, (hb.cell (p := ⟨B2, o2, none⟩) (block_lt_of_cell h2)).trans h2, (hb.cell (p := ⟨B3, o3, none⟩) (block_lt_of_cell h3)).trans h3, h7.trans (hb.mono h7.size)⟩
set_option maxRecDepth 100000 in
set_option maxHeartbeats 8000000 in
theorem rRegionCheck_of (hring : ∀ (ao : Option Addr) (n cap : Nat) (P : List Pt) (w : World), IsPts w ao n cap P → Calls Tryz.prog 57 #[.slice ao n cap] w fun e w' => e = .returned (faultV (ringCheckP P)) ∧ Below w.heap.size w w')
    (ao : Option Addr) (n cap : Nat) (R : List (List Pt)) (w : World) (h : IsRings w ao n cap R) (hs : sumLen R ≤ 1000000000000) :
    Calls Tryz.prog 36 #[.agg #[.slice ao n cap]] w fun e w' => e = .returned (faultV (regionCheckP R)) ∧ Below w.heap.size w w' := by
  have HI := Lib.hid h
  have HRI := Lib.hid hring
  have HS := Lib.hid hs
  have hcm := h.2.2.1
  have hnc := h.2.1
  have HL := Lib.hid h.1
  unfold maxLen at hcm
  obtain ⟨W0, hW0⟩ : ∃ W, W = (w.alloc (.cells #[.slice ao n cap] 30)).alloc (.cells #[.int .i64 0, .int .i64 0] 35) := ⟨_, rfl⟩
  have a0 : W0.heap[w.heap.size]? = some (.cells #[.slice ao n cap] 30 (0, 0)) := by rw [hW0]; exact (Below.heap_alloc _ _ _ (by simp)).trans (alloc_new _ _)
  have a1 : W0.heap[w.heap.size + 1]? = some (.cells #[.int .i64 0, .int .i64 0] 35 (0, 0)) := by rw [hW0]; exact alloc_new2 _ _ _
  have hs0 : W0.heap.size = w.heap.size + 2 := by rw [hW0]; simp
  have hg0 : Below w.heap.size w W0 := by rw [hW0]; exact ((Below.refl _ _).alloc (Nat.le_refl _) _).alloc (by simp) _
  have H0 := Lib.hid (And.intro a0 (And.intro a1 (And.intro hs0 hg0)))
  have c0 : W0.cell? ⟨w.heap.size, 0, none⟩ = some (.slice ao n cap) := cell_of_row _ _ _ _ _ _ a0
  have HC : Hid (∀ wr, Below W0.heap.size W0 wr → wr.cell? ⟨w.heap.size, 0, none⟩ = some (.slice ao n cap)) := Lib.hid (fun wr hb => cell_of_row _ _ _ _ _ _ ((hb.block w.heap.size (by omega)).trans a0))
  have HIW : Hid (∀ wr, Below W0.heap.size W0 wr → IsRings wr ao n cap R) := Lib.hid (fun wr hb => (h.later hg0 (Nat.le_refl _)).later hb (Nat.le_refl _))
  rw [hW0] at c0
  clear h hs a0 a1 hs0 hg0 hring
  obtain ⟨fx, hfx⟩ : ∃ f, f = regionCheckP R := ⟨_, rfl⟩
  rw [← hfx]
  have HFX := Lib.hid hfx
  clear hfx
  by_cases hlong : 20 < n
  · have hl1 : (20 : Int) < (n : Int) := by omega
    have hres : Hid (fx = (3, 0)) := Lib.hid (by rw [HFX.out]; unfold regionCheckP; rw [HL.out, if_pos hlong])
    clear hW0
    go_enter Tryz.func36, Tryz.ntmps36
    go_wp2_with fail
    first
    | exact bodyPost_ret (results_cell_row rfl _ _ _ _ _ _ _ rfl (alloc_new2 _ _ _) Tryz.underlying35 rfl (by kernel_rfl)) rfl ⟨by rw [hres.out]; rfl, ((Below.refl _ _).alloc (Nat.le_refl _) _).alloc (by simp) _⟩
    | (trace_state; sorry)
  · have hl1 : ¬ (20 : Int) < (n : Int) := by omega
    by_cases hzero : n = 0
    · subst hzero
      have hres : Hid (fx = (2, 0)) := Lib.hid (by rw [HFX.out]; unfold regionCheckP; rw [HL.out]; rfl)
      clear hW0
      go_enter Tryz.func36, Tryz.ntmps36
      go_wp2_with fail
      first
      | exact bodyPost_ret (results_cell_row rfl _ _ _ _ _ _ _ rfl (alloc_new2 _ _ _) Tryz.underlying35 rfl (by kernel_rfl)) rfl ⟨by rw [hres.out]; rfl, ((Below.refl _ _).alloc (Nat.le_refl _) _).alloc (by simp) _⟩
      | (trace_state; sorry)
    · have hl2 : ((n : Int) == 0) = false := by simp; omega
      have hn0 : 0 < n := by omega
      have HN : Hid (¬ 20 < n ∧ ¬ n = 0) := Lib.hid ⟨hlong, hzero⟩
      clear hlong hzero
      go_enter Tryz.func36, Tryz.ntmps36
      go_wp2_with fail
      rw [← hW0]
      clear hW0 c0
      go_loopw [3, 4] (fun s i wr => ∃ k : Nat, k ≤ n ∧ i = .int .i64 k ∧ (∃ t : Nat, s = .int .i64 t ∧ Hid (t = sumLen (R.take k))) ∧ wr = W0) (fun s i _ => n - (intOf i).toNat)
      case atStart => exact ⟨0, by omega, rfl, ⟨0, rfl, rfl⟩, rfl⟩
      case round =>
        obtain ⟨k, hk, rfl, ⟨t, rfl, ht⟩, rfl⟩ := hrel
        have htb : (t : Int) ≤ 1000000000000 := by have h1 := sumLen_take_le R k; have h2 := HS.out; have h3 := ht.out; omega
        have ht0 : (0 : Int) ≤ (t : Int) := by omega
        have c1 := HC.out wr (Below.refl _ _)
        by_cases hlt : k < n
        · have hi0 : (0 : Int) ≤ (k : Int) := by omega
          have hi5 : (k : Int) < (n : Int) := by omega
          obtain ⟨b, off, x, y, z, rfl, e0, hp⟩ := (HIW.out wr (Below.refl _ _)).2.2.2.2 k hlt
          have hy : (y : Int) ≤ 1000000000000 := by
            have h1 := hp.1
            have h2 := sumLen_get (g := R) (k := k) (by rw [HL.out]; exact hlt)
            have h3 := HS.out
            omega
          have hy0 : (0 : Int) ≤ (y : Int) := by omega
          have HT : Hid (t + y = sumLen (R.take (k + 1))) := Lib.hid (by rw [sumLen_take (by rw [HL.out]; exact hlt), ← ht.out, hp.1])
          clear hp
          go_wp2_with fail
          go_roundw
          case rel => exact ⟨k + 1, by omega, by go_num, ⟨t + y, by go_num, HT⟩, by first | trivial | rfl⟩
          case measure => simp [intOf]; omega
        · obtain rfl : n = k := by omega
          have hi5 : ¬ ((n : Int) < (n : Int)) := by omega
          have HT : Hid (t = sumLen R) := Lib.hid (by have := ht.out; rw [List.take_of_length_le (by rw [HL.out]; exact Nat.le_refl _)] at this; exact this)
          clear ht
          by_cases h3 : 400 < t
          · have t3 : (400 : Int) < (t : Int) := by omega
            have hres : Hid (fx = (211, 0)) := Lib.hid (by rw [HFX.out]; unfold regionCheckP; rw [HL.out, if_neg HN.out.1, if_neg HN.out.2, ← HT.out, if_pos h3])
            obtain ⟨k0, k1, f0, f1, HG⟩ := fault_cellsR H0.out.2.2.1 H0.out.2.2.2 H0.out.2.1 (Below.refl _ _)
            clear h3
            go_wp2_with fail
            exact fault_endG (Nat.le_succ _) rfl rfl rfl HG rfl hres.out
          · have t3 : ¬ (400 : Int) < (t : Int) := by omega
            have HSZ : Hid (sizeRP R.length (sumLen R) = 0) := Lib.hid (by unfold sizeRP; rw [HL.out, if_neg HN.out.1, if_neg HN.out.2, ← HT.out, if_neg h3])
            clear h3
            go_wp2_with fail
            obtain ⟨wA, hwA⟩ : ∃ x, x = wr := ⟨_, rfl⟩
            subst hwA
            go_loopw [5] (fun i wr => ∃ k : Nat, k ≤ n ∧ i = .int .i64 k ∧ Hid (∀ j, j < k → badRing R j = false) ∧ Hid (Below wA.heap.size wA wr)) (fun i _ => n - (intOf i).toNat)
            case atStart => exact ⟨0, by omega, rfl, Lib.hid (fun j hj => absurd hj (by omega)), Below.refl _ _⟩
            case round =>
              clear c1
              obtain ⟨k, hk, rfl, hq, hb⟩ := hrel
              have c1 := HC.out wr hb.out
              by_cases hlt : k < n
              · have hi0 : (0 : Int) ≤ (k : Int) := by omega
                have hi5 : (k : Int) < (n : Int) := by omega
                obtain ⟨b, off, x, y, z, rfl, e0, hp⟩ := (HIW.out wr hb.out).2.2.2.2 k hlt
                have HCR := Lib.hid (HRI.out x y z (R.getD k []) wr hp)
                have hbr : badRing R k = decide ((ringCheckP (R.getD k [])).1 ≠ 0) := rfl
                obtain ⟨f, hf⟩ : ∃ f, f = ringCheckP (R.getD k []) := ⟨_, rfl⟩
                rw [← hf] at HCR hbr
                have HBR := Lib.hid hbr
                have HF := Lib.hid hf
                obtain ⟨f, g⟩ := f
                clear hp hbr hf
                unfold faultV at HCR
                dsimp only at HCR
                go_wp2_with fail
                refine HCR.out.mono ?_
                rintro e w2 ⟨rfl, hb2⟩
                have hb3 : Below wA.heap.size wA (w2.alloc (.cells #[.int .i64 f, .int .i64 g] 35)) := (hb.out.trans (hb2.mono hb.out.size)).alloc (Nat.le_trans hb.out.size hb2.size) _
                have HB3 := Lib.hid hb3
                clear hb2 e0 c1
                by_cases hz : f = 0
                · subst hz
                  clear hb3
                  go_wp2_with fail
                  go_roundw
                  case rel =>
                    refine ⟨k + 1, by omega, by go_num, Lib.hid fun j hj => ?_, HB3⟩
                    by_cases hik : j < k
                    · exact hq.out j hik
                    · obtain rfl : j = k := by omega
                      rw [HBR.out]; rfl
                  case measure => simp [intOf]; omega
                · obtain ⟨k0, k1, f0, f1, HG⟩ := fault_cellsR H0.out.2.2.1 H0.out.2.2.2 H0.out.2.1 hb3
                  have hzz : (f == 0) = false := by simp [hz]
                  have hzz2 : (f != 0) = true := by simp [hz]
                  have HNZ := Lib.hid hz
                  clear hz hb3
                  go_wp2_with fail
                  refine fault_endG (Nat.le_succ _) rfl rfl rfl HG rfl ?_
                  rw [HFX.out, regionCheck_ring HSZ.out (by rw [HL.out]; exact hlt) hq.out (by rw [HBR.out]; exact decide_eq_true HNZ.out), ← HF.out]
              · have hkn : n = k := by omega
                subst hkn
                have HRC : Hid (fx = match firstP R.length (badPair R) with
                  | some i => (210, (i : Int))
                  | none => (0, 0)) := Lib.hid (by rw [HFX.out]; exact regionCheck_rest HSZ.out (by rw [HL.out]; exact hq.out))
                clear hq
                go_wp2_with fail
                go_loopw [7] (fun i wr => ∃ j : Nat, j ≤ n ∧ i = .int .i64 j ∧ Hid (∀ t, t < j → badPair R t = false) ∧ Hid (Below wA.heap.size wA wr)) (fun i _ => n - (intOf i).toNat)
                case atStart => exact ⟨0, by omega, rfl, Lib.hid (fun j hj => absurd hj (by omega)), hb⟩
                case round =>
                  clear c1 hb
                  obtain ⟨j, hj, rfl, hq, hb⟩ := hrel
                  have c1 := HC.out wr hb.out
                  by_cases hlt : j < n
                  · have hj0 : (0 : Int) ≤ (j : Int) := by omega
                    have hj5 : (j : Int) < (n : Int) := by omega
                    have hwj : IntKind.i64.wrap ((j : Int) + 1) = (j : Int) + 1 := IntWalk.i64_in _ (by omega)
                    go_wp2_with fail
                    obtain ⟨wB, hwB⟩ : ∃ x, x = wr := ⟨_, rfl⟩
                    subst hwB
                    go_loopw [8] (fun i wr => ∃ k : Nat, j + 1 ≤ k ∧ k ≤ n ∧ i = .int .i64 k ∧ Hid (∀ t, j < t → t < k → ringsMeet (R.getD j []) (R.getD t []) = false) ∧ Hid (Below wA.heap.size wA wr)) (fun i _ => n - (intOf i).toNat)
                    case atStart => exact ⟨j + 1, Nat.le_refl _, by omega, by go_num, Lib.hid (fun t h1 h2 => absurd h2 (by omega)), hb⟩
                    case round =>
                      clear c1
                      obtain ⟨k, hk1, hk2, rfl, hno, hb2⟩ := hrel
                      have c1 := HC.out wr hb2.out
                      by_cases hlt2 : k < n
                      · have hk0 : (0 : Int) ≤ (k : Int) := by omega
                        have hk5 : (k : Int) < (n : Int) := by omega
                        have hrs := HIW.out wr hb2.out
                        obtain ⟨b, off, x, y, z, rfl, e0, hp⟩ := hrs.2.2.2.2 j hlt
                        obtain ⟨b', off', x', y', z', hbo, e1, hp'⟩ := hrs.2.2.2.2 k hlt2
                        cases hbo
                        have hM : ∀ wX, Below wr.heap.size wr wX → _ := fun wX hX => rmeet_any x y z (R.getD j []) x' y' z' (R.getD k []) wX (hp.later hX (Nat.le_refl _)) (hp'.later hX (Nat.le_refl _))
                        obtain ⟨v, hv⟩ : ∃ v, v = ringsMeet (R.getD j []) (R.getD k []) := ⟨_, rfl⟩
                        rw [← hv] at hM
                        have HM := Lib.hid hM
                        have HV := Lib.hid hv
                        clear hM hv hrs hp hp'
                        go_wp2_with fail
                        go_region_held3 (fun w' => w'.cell? ⟨w.heap.size, 0, none⟩ = some (.slice (some ⟨b, off, none⟩) n cap) ∧ w'.cell? ⟨b, off + j, none⟩ = some (.slice x y z) ∧ w'.cell? ⟨b, off + k, none⟩ = some (.slice x' y' z') ∧ Below wr.heap.size wr w')
                          (first
                            | (exact ⟨c1, e0, e1, (Below.refl _ _).drew⟩)
                            | (go_split_ands; refine three_stepB hgr ?_ ?_ ?_ ?_; all_goals assumption))
                          (first
                            | (go_at_call 58; go_split_ands; refine (HM.out _ (by assumption)).mono ?_; rintro e wC ⟨rfl, hgr⟩)
                            | fail)
                        have HB : Hid (Below wr.heap.size wr wC) := Lib.hid (by first | assumption | (go_split_ands; assumption))
                        have HBA : Hid (Below wA.heap.size wA wC) := Lib.hid (hb2.out.trans (HB.out.mono hb2.out.size))
                        clear e0 e1 c1 HB
                        cases v with
                        | true =>
                          obtain ⟨k0, k1, f0, f1, HG⟩ := fault_cellsR H0.out.2.2.1 H0.out.2.2.2 H0.out.2.1 HBA.out
                          go_wp2_with fail
                          refine fault_endG (Nat.le_succ _) rfl rfl rfl HG rfl ?_
                          rw [HRC.out, firstP_some (by rw [HL.out]; exact hlt) (badPair_true (show j < k by omega) (by rw [HL.out]; exact hlt2) HV.out.symm) hq.out]
                        | false =>
                          go_wp2_with fail
                          go_roundw
                          case rel =>
                            refine ⟨k + 1, by omega, by omega, by go_num, Lib.hid fun t h1 h2 => ?_, HBA⟩
                            by_cases hik : t < k
                            · exact hno.out t h1 hik
                            · obtain rfl : t = k := by omega
                              exact HV.out.symm
                          case measure => simp [intOf]; omega
                      · have hkn : n = k := by omega
                        subst hkn
                        have HBP : Hid (badPair R j = false) := Lib.hid (badPair_false (fun k h1 h2 => hno.out k h1 (by rw [← HL.out]; exact h2)))
                        clear hno
                        go_wp2_with fail
                        go_roundw
                        case rel =>
                          refine ⟨j + 1, by omega, by go_num, Lib.hid fun t ht => ?_, hb2⟩
                          by_cases hik : t < j
                          · exact hq.out t hik
                          · obtain rfl : t = j := by omega
                            exact HBP.out
                        case measure => simp [intOf]; omega
                  · have hjn : n = j := by omega
                    subst hjn
                    obtain ⟨k0, k1, f0, f1, HG⟩ := fault_cellsR H0.out.2.2.1 H0.out.2.2.2 H0.out.2.1 hb.out
                    go_wp2_with fail
                    refine fault_endG (Nat.le_succ _) rfl rfl rfl HG rfl ?_
                    rw [HRC.out, firstP_none (by rw [HL.out]; exact hq.out)]
end Go.Proofs.YtjiiikeniocmfaaGreat

/- the document's point: Bounds -/
set_option linter.unusedSimpArgs false
set_option linter.unusedVariables false
namespace Go.Proofs.YtjiiikeniocmfaaGreat
open Go.RowKit Go.Shelf Go.Geo
attribute [local go_sem] Oper.semAt_some
theorem maxK_bd {f : Pt → Int} {z m M : Int} {l : List Pt} (k : Nat) (hz : m ≤ z ∧ z ≤ M) (h : ∀ v ∈ l, m ≤ f v ∧ f v ≤ M) : m ≤ maxK f z l k ∧ maxK f z l k ≤ M := by
  unfold maxK
  have key : ∀ (q : List Pt) (z : Int), m ≤ z ∧ z ≤ M → (∀ v ∈ q, m ≤ f v ∧ f v ≤ M) → m ≤ q.foldl (fun z v => max z (f v)) z ∧ q.foldl (fun z v => max z (f v)) z ≤ M := by
    intro q
    induction q with
    | nil => intro z hz _; exact hz
    | cons a q ih =>
      intro z hz h
      have ha := h a List.mem_cons_self
      exact ih _ (by dsimp only; omega) (fun v hv => h v (List.mem_cons_of_mem _ hv))
  exact key _ _ hz (fun v hv => h v (List.mem_of_mem_take hv))
theorem all_valid_false {P : List Pt} {k : Nat} (hk : k < P.length) (h : validP (P.getD k p0) = false) : P.all validP = false := by
  rw [List.all_eq_false]
  refine ⟨P[k], List.getElem_mem _, ?_⟩
  rw [List.getD_eq_getElem?_getD, List.getElem?_eq_getElem hk] at h
  simpa using h
theorem all_valid_true {P : List Pt} (h : ∀ t, t < P.length → validP (P.getD t p0) = true) : P.all validP = true := by
  rw [List.all_eq_true]
  intro x hx
  obtain ⟨i, hi, rfl⟩ := List.mem_iff_getElem.1 hx
  have := h i hi
  rwa [List.getD_eq_getElem?_getD, List.getElem?_eq_getElem hi] at this
set_option maxRecDepth 100000 in
set_option maxHeartbeats 4000000 in
theorem rBounds_any (ao : Option Addr) (n cap : Nat) (P : List Pt) (w : World) (h : IsPts w ao n cap P) :
    Calls Tryz.prog 60 #[.slice ao n cap] w fun e w' => e = .returned (boundsV P) ∧ Grew w w' := by
  have HI := Lib.hid h
  have hcm := h.2.2.1
  have hnc := h.2.1
  have HL : Hid (P.length = n) := h.1
  unfold maxLen at hcm
  obtain ⟨r, hr⟩ : ∃ r, r = boundsV P := ⟨_, rfl⟩
  rw [← hr]
  have HR := Lib.hid hr
  clear hr
  by_cases h0 : n = 0
  · subst h0
    have hb : Hid (boundsV P = .tuple #[.agg (boxRow 0 0 0 0), .bool false]) := Lib.hid (by unfold boundsV; rw [bounds_none (.inr HL.out)]; rfl)
    clear h
    go_enter Tryz.func60, Tryz.ntmps60
    go_wp2_with fail
    have hb0 := alloc_new w (.cells (boxRow 0 0 0 0) 66)
    refine bodyPost_ret (results_box rfl rfl hb0) rfl ⟨?_, (Grew.refl _).alloc _⟩
    rw [HR.out, hb.out]
    rfl
  · have hz : ((n : Int) == 0) = false := by simp; omega
    have hn : 0 < n := by omega
    have hn1 : (0 : Int) < (n : Int) := by omega
    obtain ⟨b, off, rfl, e0, e1⟩ := h.at hn
    simp only [Nat.zero_mul, Nat.add_zero] at e0 e1
    obtain ⟨z, hz2⟩ : ∃ z, z = P.getD 0 p0 := ⟨_, rfl⟩
    rw [← hz2] at e0 e1
    have HZ := Lib.hid hz2
    have d0 : (w.alloc (.cells #[.int .i64 0, .int .i64 0, .int .i64 0, .int .i64 0] 66)).cell? ⟨b, off, none⟩ = some (.int .i64 z.x) := ((Grew.refl _).alloc _).cell e0
    have d1 : (w.alloc (.cells #[.int .i64 0, .int .i64 0, .int .i64 0, .int .i64 0] 66)).cell? ⟨b, off + 1, none⟩ = some (.int .i64 z.y) := ((Grew.refl _).alloc _).cell e1
    have g0 : ((w.alloc (.cells #[.int .i64 0, .int .i64 0, .int .i64 0, .int .i64 0] 66)).alloc (.cells #[.int .i64 0, .int .i64 0, .int .i64 0, .int .i64 0] 66)).cell? ⟨b, off, none⟩ = some (.int .i64 z.x) := ((Grew.refl _).alloc _).cell d0
    have g1 : ((w.alloc (.cells #[.int .i64 0, .int .i64 0, .int .i64 0, .int .i64 0] 66)).alloc (.cells #[.int .i64 0, .int .i64 0, .int .i64 0, .int .i64 0] 66)).cell? ⟨b, off + 1, none⟩ = some (.int .i64 z.y) := ((Grew.refl _).alloc _).cell d1
    clear h hz2 h0 e0 e1
    go_enter Tryz.func60, Tryz.ntmps60
    go_wp2_with fail
    go_region
    go_wp2_with fail
    obtain ⟨W, hW⟩ : ∃ W, W = ((w.alloc (.cells #[.int .i64 0, .int .i64 0, .int .i64 0, .int .i64 0] 66)).alloc (.cells #[.int .i64 z.x, .int .i64 z.y, .int .i64 z.x, .int .i64 z.y] 66)).drew := ⟨_, rfl⟩
    obtain ⟨B, hB⟩ : ∃ B, B = w.heap.size + 1 := ⟨_, rfl⟩
    have H0 : Hid (W.heap[w.heap.size]? = some (.cells (boxRow 0 0 0 0) 66 (0, 0)) ∧ W.heap[B]? = some (.cells (boxRow (minK Pt.x z.x P 0) (minK Pt.y z.y P 0) (maxK Pt.x z.x P 0) (maxK Pt.y z.y P 0)) 66 (0, 0)) ∧ Grew w W) := Lib.hid (by
      rw [hW, hB]
      exact ⟨(Below.heap_alloc _ _ _ (by simp)).trans (alloc_new _ _), alloc_new2 _ _ _, (((Grew.refl _).alloc _).alloc _).drew⟩)
    have HB : Hid (w.heap.size < B) := Lib.hid (by omega)
    rw [← hW, ← hB]
    clear hW hB d0 d1 g0 g1
    go_loopw [5] (fun i wr => ∃ j : Nat, j ≤ n ∧ i = .int .i64 j ∧ Hid (∀ t, t < j → validP (P.getD t p0) = true) ∧ Hid (wr.heap[w.heap.size]? = some (.cells (boxRow 0 0 0 0) 66 (0, 0)) ∧ wr.heap[B]? = some (.cells (boxRow (minK Pt.x z.x P j) (minK Pt.y z.y P j) (maxK Pt.x z.x P j) (maxK Pt.y z.y P j)) 66 (0, 0)) ∧ Grew w wr)) (fun i _ => n - (intOf i).toNat)
    case atStart => exact ⟨0, by omega, rfl, Lib.hid (fun t ht => absurd ht (by omega)), H0⟩
    case round =>
      obtain ⟨j, hj, rfl, hv, hw⟩ := hrel
      by_cases hlt : j < n
      · have hi0 : (0 : Int) ≤ (j : Int) := by omega
        have hi5 : (j : Int) < (n : Int) := by omega
        obtain ⟨b2, off2, hbo, e0, e1⟩ := (HI.out.grew hw.out.2.2).at hlt
        cases hbo
        obtain ⟨c, hc⟩ : ∃ c, c = P.getD j p0 := ⟨_, rfl⟩
        rw [← hc] at e0 e1
        have HC := Lib.hid (rValid_any c)
        obtain ⟨v, hvv⟩ : ∃ v, v = validP c := ⟨_, rfl⟩
        rw [← hvv] at HC
        have HVC := Lib.hid (And.intro hvv hc)
        have nlo := minK_succ (f := Pt.x) (z := z.x) (l := P) (k := j) (by rw [HL.out]; exact hlt)
        have nlo2 := minK_succ (f := Pt.y) (z := z.y) (l := P) (k := j) (by rw [HL.out]; exact hlt)
        have nhi := maxK_succ (f := Pt.x) (z := z.x) (l := P) (k := j) (by rw [HL.out]; exact hlt)
        have nhi2 := maxK_succ (f := Pt.y) (z := z.y) (l := P) (k := j) (by rw [HL.out]; exact hlt)
        rw [← hc] at nlo nlo2 nhi nhi2
        obtain ⟨lx, hlx⟩ : ∃ x, x = minK Pt.x z.x P j := ⟨_, rfl⟩
        obtain ⟨ly, hly⟩ : ∃ x, x = minK Pt.y z.y P j := ⟨_, rfl⟩
        obtain ⟨hx, hhx⟩ : ∃ x, x = maxK Pt.x z.x P j := ⟨_, rfl⟩
        obtain ⟨hy, hhy⟩ : ∃ x, x = maxK Pt.y z.y P j := ⟨_, rfl⟩
        rw [← hlx, ← hly, ← hhx, ← hhy] at hw
        rw [← hlx] at nlo
        rw [← hly] at nlo2
        rw [← hhx] at nhi
        rw [← hhy] at nhi2
        have HN := Lib.hid (And.intro nlo (And.intro nlo2 (And.intro nhi nhi2)))
        obtain ⟨cx, cy⟩ := c
        have HBS : Hid (B < wr.heap.size) := Lib.hid (heap_lt' hw.out.2.1)
        clear hlx hly hhx hhy nlo nlo2 nhi nhi2 hvv hc
        unfold ptV at HC
        dsimp only at HC HN e0 e1
        cases v with
        | false =>
          go_wp2_with fail
          refine (HC.out _).mono ?_
          rintro e w2 ⟨rfl, hg2⟩
          have hgg : Grew w w2 := (hw.out.2.2.alloc _).trans hg2
          have hres : w2.heap[w.heap.size]? = some (.cells (boxRow 0 0 0 0) 66 (0, 0)) := (hg2.1.block _ (by have := heap_lt' hw.out.1; simp; omega)).trans ((Below.heap_alloc _ _ _ (heap_lt' hw.out.1)).trans hw.out.1)
          have HRES := Lib.hid hres
          have HGG := Lib.hid hgg
          obtain ⟨k0, k1, k2, k3⟩ := box_cells hres
          obtain ⟨f0, f1, f2, f3⟩ := box_frozen hres
          clear hgg hres hg2 e0 e1
          go_wp2_with fail
          refine bodyPost_ret (results_box rfl rfl (put_box HRES.out 0 0 0 0)) rfl ⟨?_, ?_⟩
          · rw [HR.out]
            unfold boundsV
            rw [bounds_none (.inl (all_valid_false (k := j) (by rw [HL.out]; exact hlt) (by rw [← HVC.out.2]; exact HVC.out.1.symm)))]
            rfl
          · exact grew_setCell (grew_setCell (grew_setCell (grew_setCell HGG.out (Nat.le_refl _) _) (Nat.le_refl _) _) (Nat.le_refl _) _) (Nat.le_refl _) _
        | true =>
          obtain ⟨m1, hm1⟩ : ∃ m, m = min lx cx := ⟨_, rfl⟩
          obtain ⟨m2, hm2⟩ : ∃ m, m = min ly cy := ⟨_, rfl⟩
          obtain ⟨m3, hm3⟩ : ∃ m, m = max hx cx := ⟨_, rfl⟩
          obtain ⟨m4, hm4⟩ : ∃ m, m = max hy cy := ⟨_, rfl⟩
          rw [← hm1, ← hm2, ← hm3, ← hm4] at HN
          have i1 : (if cx < lx then cx else lx) = m1 := by rw [hm1]; split <;> omega
          have i2 : (if cy < ly then cy else ly) = m2 := by rw [hm2]; split <;> omega
          have i3 : (if hx < cx then cx else hx) = m3 := by rw [hm3]; split <;> omega
          have i4 : (if hy < cy then cy else hy) = m4 := by rw [hm4]; split <;> omega
          clear hm1 hm2 hm3 hm4
          go_wp2_with fail
          refine (HC.out _).mono ?_
          rintro e w2 ⟨rfl, hg2⟩
          have hgg : Grew w w2 := (hw.out.2.2.alloc _).trans hg2
          have hres : w2.heap[w.heap.size]? = some (.cells (boxRow 0 0 0 0) 66 (0, 0)) := (hg2.1.block _ (by have := heap_lt' hw.out.1; simp; omega)).trans ((Below.heap_alloc _ _ _ (heap_lt' hw.out.1)).trans hw.out.1)
          have hbox : w2.heap[B]? = some (.cells (boxRow lx ly hx hy) 66 (0, 0)) := (hg2.1.block _ (by have := heap_lt' hw.out.2.1; simp; omega)).trans ((Below.heap_alloc _ _ _ (heap_lt' hw.out.2.1)).trans hw.out.2.1)
          have hpt : w2.heap[wr.heap.size]? = some (.cells #[.int .i64 cx, .int .i64 cy] 24 (0, 0)) := hg2.heap_new
          have HRES := Lib.hid (And.intro hres (And.intro hbox hgg))
          obtain ⟨k0, k1, k2, k3⟩ := box_cells hbox
          obtain ⟨f0, f1, f2, f3⟩ := box_frozen hbox
          have q0 : w2.cell? ⟨wr.heap.size, 0, none⟩ = some (.int .i64 cx) := cell_of_row _ _ _ _ _ _ hpt
          have q1 : w2.cell? ⟨wr.heap.size, 1, none⟩ = some (.int .i64 cy) := cell_of_row _ _ _ _ _ _ hpt
          have hne : ¬ wr.heap.size = B := by have := HBS.out; omega
          have hne2 : ¬ B = wr.heap.size := by have := HBS.out; omega
          clear hgg hres hg2 e0 e1 hbox hpt
          go_wp2_with fail
          have hBw : w.heap.size ≤ B := Nat.le_of_lt HB.out
          have HE : Hid (((((w2.setCell ⟨B, 0, none⟩ (.int .i64 m1)).setCell ⟨B, 1, none⟩ (.int .i64 m2)).setCell ⟨B, 2, none⟩ (.int .i64 m3)).setCell ⟨B, 3, none⟩ (.int .i64 m4)).heap[B]? = some (.cells (boxRow m1 m2 m3 m4) 66 (0, 0))) := Lib.hid (put3 (put2 (put1 (put0 HRES.out.2.1 m1) m2) m3) m4)
          have HE2 : Hid (((((w2.setCell ⟨B, 0, none⟩ (.int .i64 m1)).setCell ⟨B, 1, none⟩ (.int .i64 m2)).setCell ⟨B, 2, none⟩ (.int .i64 m3)).setCell ⟨B, 3, none⟩ (.int .i64 m4)).heap[w.heap.size]? = some (.cells (boxRow 0 0 0 0) 66 (0, 0))) := Lib.hid ((heap_other (by have := HB.out; omega)).trans ((heap_other (by have := HB.out; omega)).trans ((heap_other (by have := HB.out; omega)).trans ((heap_other (by have := HB.out; omega)).trans HRES.out.1))))
          have HE3 : Hid (Grew w ((((w2.setCell ⟨B, 0, none⟩ (.int .i64 m1)).setCell ⟨B, 1, none⟩ (.int .i64 m2)).setCell ⟨B, 2, none⟩ (.int .i64 m3)).setCell ⟨B, 3, none⟩ (.int .i64 m4))) := Lib.hid (grew_setCell (grew_setCell (grew_setCell (grew_setCell HRES.out.2.2 hBw _) hBw _) hBw _) hBw _)
          clear hBw
          generalize (((w2.setCell ⟨B, 0, none⟩ (.int .i64 m1)).setCell ⟨B, 1, none⟩ (.int .i64 m2)).setCell ⟨B, 2, none⟩ (.int .i64 m3)).setCell ⟨B, 3, none⟩ (.int .i64 m4) = w5 at *
          go_roundw
          case rel =>
            refine ⟨j + 1, by omega, by go_num, Lib.hid (fun t ht => ?_), Lib.hid ⟨HE2.out, ?_, HE3.out⟩⟩
            · by_cases htj : t < j
              · exact hv.out t htj
              · obtain rfl : t = j := by omega
                rw [← HVC.out.2]
                exact HVC.out.1.symm
            · rw [HN.out.1, HN.out.2.1, HN.out.2.2.1, HN.out.2.2.2]
              exact HE.out
          case measure => simp [intOf]; omega
      · have hjn : n = j := by omega
        subst hjn
        have hres := hw.out.1
        have hbox := hw.out.2.1
        have hbf := bounds_fold (l := P) (by rw [HL.out]; exact hn) (all_valid_true (by rw [HL.out]; exact hv.out))
        rw [HL.out, ← HZ.out] at hbf
        obtain ⟨lx, hlx⟩ : ∃ x, x = minK Pt.x z.x P n := ⟨_, rfl⟩
        obtain ⟨ly, hly⟩ : ∃ x, x = minK Pt.y z.y P n := ⟨_, rfl⟩
        obtain ⟨hx, hhx⟩ : ∃ x, x = maxK Pt.x z.x P n := ⟨_, rfl⟩
        obtain ⟨hy, hhy⟩ : ∃ x, x = maxK Pt.y z.y P n := ⟨_, rfl⟩
        rw [← hlx, ← hly, ← hhx, ← hhy] at hbox hbf
        have HBF := Lib.hid hbf
        have hall : ∀ v ∈ P, validP v = true := List.all_eq_true.1 (all_valid_true (by rw [HL.out]; exact hv.out))
        have hzv : z ∈ P := by rw [HZ.out, List.getD_eq_getElem?_getD, List.getElem?_eq_getElem (by rw [HL.out]; exact hn)]; exact List.getElem_mem _
        have hbx := maxK_bd (f := Pt.x) (z := z.x) (m := -1099511627775) (M := 1099511627775) (l := P) n (((validP_iff _).1 (hall _ hzv)).1) (fun v h => ((validP_iff _).1 (hall v h)).1)
        have hby := maxK_bd (f := Pt.y) (z := z.y) (m := -1099511627775) (M := 1099511627775) (l := P) n (((validP_iff _).1 (hall _ hzv)).2) (fun v h => ((validP_iff _).1 (hall v h)).2)
        rw [← hhx] at hbx
        rw [← hhy] at hby
        obtain ⟨d1, d2⟩ := hbx
        obtain ⟨d3, d4⟩ := hby
        have w1 : IntKind.i64.wrap (hx + 1) = hx + 1 := IntWalk.i64_in _ (by omega)
        have w2 : IntKind.i64.wrap (hy + 1) = hy + 1 := IntWalk.i64_in _ (by omega)
        obtain ⟨k0, k1, k2, k3⟩ := box_cells hbox
        obtain ⟨f0, f1, f2, f3⟩ := box_frozen hbox
        obtain ⟨l0, l1, l2, l3⟩ := box_cells hres
        obtain ⟨h0, h1, h2, h3⟩ := box_frozen hres
        have hne : ¬ w.heap.size = B := by have := HB.out; omega
        have hne2 : ¬ B = w.heap.size := by have := HB.out; omega
        have HW := hw
        clear hw hres hbox hbf hlx hly hhx hhy hv hall hzv
        go_wp2_with fail
        have HP := Lib.hid (put_box (w := (wr.setCell ⟨B, 2, none⟩ (.int .i64 (hx + 1))).setCell ⟨B, 3, none⟩ (.int .i64 (hy + 1))) (a := 0) (b := 0) (c := 0) (d := 0) ((heap_other (by have := HB.out; omega)).trans ((heap_other (by have := HB.out; omega)).trans HW.out.1)) lx ly (hx + 1) (hy + 1))
        refine bodyPost_ret (results_box rfl rfl HP.out) rfl ⟨?_, ?_⟩
        · rw [HR.out]
          unfold boundsV
          rw [HBF.out]
          rfl
        · have hBw : w.heap.size ≤ B := Nat.le_of_lt HB.out
          exact grew_setCell (grew_setCell (grew_setCell (grew_setCell (grew_setCell (grew_setCell HW.out.2.2 hBw _) hBw _) (Nat.le_refl _) _) (Nat.le_refl _) _) (Nat.le_refl _) _) (Nat.le_refl _) _
end Go.Proofs.YtjiiikeniocmfaaGreat

/- the document's region: Box -/
set_option linter.unusedSimpArgs false
set_option linter.unusedVariables false
namespace Go.Proofs.YtjiiikeniocmfaaGreat
open Go.RowKit Go.Shelf Go.Geo
attribute [local go_sem] Oper.semAt_some
set_option maxRecDepth 100000 in
set_option maxHeartbeats 4000000 in
theorem rBox_region (ao : Option Addr) (n cap : Nat) (R : List (List Pt)) (w : World) (h : IsRings w ao n cap R) (hs : sumLen R ≤ 1000000) :
    Calls Tryz.prog 38 #[.agg #[.slice ao n cap]] w fun e w' => e = .returned (boundsV R.flatten) ∧ Below w.heap.size w w' := by
  have HI := Lib.hid h
  have HS := Lib.hid hs
  have hcm := h.2.2.1
  have hnc := h.2.1
  have HL := Lib.hid h.1
  unfold maxLen at hcm
  obtain ⟨W0, hW0⟩ : ∃ W, W = (w.alloc (.cells #[.slice ao n cap] 30)).alloc (.cells #[.int .i64 0, .int .i64 0, .int .i64 0, .int .i64 0] 66) := ⟨_, rfl⟩
  have a0 : W0.heap[w.heap.size]? = some (.cells #[.slice ao n cap] 30 (0, 0)) := by rw [hW0]; exact (Below.heap_alloc _ _ _ (by simp)).trans (alloc_new _ _)
  have a1 : W0.heap[w.heap.size + 1]? = some (.cells (boxRow 0 0 0 0) 66 (0, 0)) := by rw [hW0]; exact alloc_new2 _ _ _
  have hs0 : W0.heap.size = w.heap.size + 2 := by rw [hW0]; simp
  have hg0 : Below w.heap.size w W0 := by rw [hW0]; exact ((Below.refl _ _).alloc (Nat.le_refl _) _).alloc (by simp) _
  have H0 := Lib.hid (And.intro a0 (And.intro a1 (And.intro hs0 hg0)))
  have c0 : W0.cell? ⟨w.heap.size, 0, none⟩ = some (.slice ao n cap) := cell_of_row _ _ _ _ _ _ a0
  have HC : Hid (∀ wr, Below W0.heap.size W0 wr → wr.cell? ⟨w.heap.size, 0, none⟩ = some (.slice ao n cap)) := Lib.hid (fun wr hb => cell_of_row _ _ _ _ _ _ ((hb.block w.heap.size (by omega)).trans a0))
  have HIW : Hid (∀ wr, Below W0.heap.size W0 wr → IsRings wr ao n cap R) := Lib.hid (fun wr hb => (h.later hg0 (Nat.le_refl _)).later hb (Nat.le_refl _))
  rw [hW0] at c0
  have hbv : ∃ lo hi : Pt, ∃ q : Bool, boundsV R.flatten = .tuple #[boxV lo hi, .bool q] := by
    unfold boundsV
    split
    · exact ⟨_, _, _, rfl⟩
    · exact ⟨_, _, _, rfl⟩
  obtain ⟨lo, hi, q, hbv⟩ := hbv
  have HBV := Lib.hid hbv
  clear h hs a0 a1 hs0 hg0 hbv
  go_enter Tryz.func38, Tryz.ntmps38
  go_wp2_with fail
  rw [← hW0]
  clear hW0 c0
  go_loopw [4, 5] (fun v i wr => ∃ k : Nat, k ≤ n ∧ i = .int .i64 k ∧ Hid (OwnP wr W0.heap.size v (R.take k).flatten) ∧ Hid (Below W0.heap.size W0 wr)) (fun _ i _ => n - (intOf i).toNat)
  case atStart => exact ⟨0, by omega, rfl, Lib.hid (OwnP.nil _ _), Below.refl _ _⟩
  case round =>
    obtain ⟨k, hk, rfl, hown, hbl⟩ := hrel
    have c1 := HC.out wr hbl.out
    by_cases hlt : k < n
    · have hi0 : (0 : Int) ≤ (k : Int) := by omega
      have hi5 : (k : Int) < (n : Int) := by omega
      obtain ⟨b, off, x, y, z, rfl, e0, hp⟩ := (HIW.out wr hbl.out).2.2.2.2 k hlt
      have HP := Lib.hid hp
      have HT : Hid ((R.take (k + 1)).flatten = (R.take k).flatten ++ R.getD k []) := Lib.hid (flatten_takeQ (by rw [HL.out]; exact hlt))
      have HLN : Hid ((R.take k).flatten.length + y ≤ 1000000000) := Lib.hid (by
        have h1 := sumLen_take_le R k
        have h2 := sumLen_get (g := R) (k := k) (by rw [HL.out]; exact hlt)
        have h3 := HS.out
        have h4 := hp.1
        rw [sumLen_flatten]
        omega)
      clear hp
      go_wp2_with (at_builtin; refine wpList_append_pts rfl _ _ rfl W0.heap.size _ (R.take k).flatten rfl hown.out _ _ _ (R.getD k []) rfl HP.out HLN.out hbl.out.size ?_
                   intro v5 w5 hown5 hg5
                   have H5 := Lib.hid (And.intro hown5 (hbl.out.grown hg5 hbl.out.size (fun k hk => (hown.out.lt k hk).1)))
                   clear hown5 hg5)
      go_roundw
      case rel => exact ⟨k + 1, by omega, by go_num, by rw [HT.out]; exact H5.out.1, H5.out.2⟩
      case measure => simp [intOf]; omega
    · have hkn : n = k := by omega
      subst hkn
      have hown2 := hown.out
      rw [List.take_of_length_le (by rw [HL.out]; exact Nat.le_refl _)] at hown2
      obtain ⟨a1, c2, hv1, hp1⟩ := hown2.pts
      subst hv1
      have hbx := rBounds_any a1 _ c2 R.flatten wr hp1
      rw [HBV.out] at hbx
      have HBX := Lib.hid hbx
      have HB1 := Lib.hid hbl.out
      obtain ⟨m, hm⟩ : ∃ m, m = R.flatten.length := ⟨_, rfl⟩
      rw [← hm] at HBX ⊢
      clear hown2 hp1 hbx hm hown hbl
      unfold boxV at HBX
      go_wp2_with fail
      refine HBX.out.mono ?_
      rintro e w2 ⟨rfl, hg2⟩
      have hb2 : Below W0.heap.size W0 w2 := HB1.out.trans (hg2.1.mono HB1.out.size)
      have hres : w2.heap[w.heap.size + 1]? = some (.cells (boxRow 0 0 0 0) 66 (0, 0)) := (hb2.block _ (by rw [H0.out.2.2.1]; omega)).trans H0.out.2.1
      obtain ⟨k0, k1, k2, k3⟩ := box_cells hres
      obtain ⟨f0, f1, f2, f3⟩ := box_frozen hres
      have HR := Lib.hid hres
      have HB2 := Lib.hid (H0.out.2.2.2.trans (hb2.mono H0.out.2.2.2.size))
      clear hres hb2 hg2 c1
      go_wp2_with fail
      refine bodyPost_ret (results_box rfl rfl (put_box HR.out lo.x lo.y hi.x hi.y)) rfl ⟨?_, ?_⟩
      · rw [HBV.out]; rfl
      · have hle : w.heap.size ≤ w.heap.size + 1 := by omega
        exact (((HB2.out.setCell (p := ⟨_, 0, none⟩) hle _).setCell (p := ⟨_, 1, none⟩) hle _).setCell (p := ⟨_, 2, none⟩) hle _).setCell (p := ⟨_, 3, none⟩) hle _
end Go.Proofs.YtjiiikeniocmfaaGreat

/- region.In -/
set_option linter.unusedSimpArgs false
set_option linter.unusedVariables false
namespace Go.Proofs.YtjiiikeniocmfaaGreat
open Go.RowKit Go.Geo
attribute [local go_sem] Oper.semAt_some
end Go.Proofs.YtjiiikeniocmfaaGreat
