/- region.Check -/
import Derived.Test.YtjiiikeniocmfaaGreatMSEdges
set_option linter.unusedSimpArgs false
set_option linter.unusedVariables false
namespace Go.Proofs.YtjiiikeniocmfaaGreat
open Go.RowKit Go.Geo
attribute [local go_sem] Oper.semAt_some
theorem okR {l : List Pt} (h : (ringCheckP l).1 = 0) : OkR l := ring_ok h
/-- rings from the k-th on. -/
theorem IsRings.dropped {w : World} {b off n cap : Nat} {R : List (List Pt)} (h : IsRings w (some ⟨b, off, none⟩) n cap R) {k : Nat} (hk : k ≤ n) : IsRings w (some (if cap = k then ⟨b, off, none⟩ else ⟨b, off + k, none⟩)) (n - k) (cap - k) (R.drop k) := by
  obtain ⟨h1, h2, h3, h4, h5⟩ := h
  refine ⟨by simp [h1], by omega, by omega, (fun h => by cases h), fun i hi => ?_⟩
  obtain ⟨b', off', x, y, z, e, hc, hp⟩ := h5 (k + i) (by omega)
  cases e
  have hne : cap ≠ k := by omega
  refine ⟨b, off + k, x, y, z, by rw [if_neg hne], ?_, ?_⟩
  · rw [Nat.add_assoc]; exact hc
  · have : (R.drop k).getD i [] = R.getD (k + i) [] := by simp [List.getD_eq_getElem?_getD]
    rw [this]; exact hp
/-- what the look over the rings tells, each by itself; all pairs. -/
def badRing (R : List (List Pt)) (k : Nat) : Bool := decide ((ringCheckP (R.getD k [])).1 ≠ 0)
def badPair (R : List (List Pt)) (k : Nat) : Bool := (R.drop (k + 1)).any (fun s => ringsMeet (R.getD k []) s)
theorem regionCheck_size {R : List (List Pt)} {z : Int} (h : z = sizeRP R.length (sumLen R)) (hz : z ≠ 0) : regionCheckP R = (z, 0) := by
  subst h
  unfold sizeRP regionCheckP at *
  split
  · rfl
  · rename_i h1
    rw [if_neg h1] at hz
    split
    · rename_i h2; simp [h2]
    · rename_i h2
      rw [if_neg h2] at hz
      split
      · rename_i h3; simp [h2, h3, h1]
      · rename_i h3
        exact absurd (by rw [if_neg h3]) hz
theorem regionCheck_ring {R : List (List Pt)} {k : Nat} (h : sizeRP R.length (sumLen R) = 0) (hk : k < R.length) (hq : ∀ j, j < k → badRing R j = false) (hb : badRing R k = true) : regionCheckP R = ((ringCheckP (R.getD k [])).1, (k : Int)) := by
  unfold sizeRP at h
  unfold regionCheckP
  by_cases h1 : 20 < R.length
  · rw [if_pos h1] at h; cases h
  · rw [if_neg h1] at h ⊢
    by_cases h2 : R.length = 0
    · omega
    · rw [if_neg h2] at h ⊢
      by_cases h3 : 400 < sumLen R
      · rw [if_pos h3] at h; cases h
      · rw [if_neg h3, firstP_some (f := fun i => decide ((ringCheckP (R.getD i [])).1 ≠ 0)) hk hb hq]
theorem regionCheck_rest {R : List (List Pt)} (h : sizeRP R.length (sumLen R) = 0) (hq : ∀ j, j < R.length → badRing R j = false) : regionCheckP R = match firstP R.length (badPair R) with
    | some i => (210, (i : Int))
    | none => (0, 0) := by
  unfold sizeRP at h
  unfold regionCheckP
  by_cases h1 : 20 < R.length
  · rw [if_pos h1] at h; cases h
  · rw [if_neg h1] at h ⊢
    by_cases h2 : R.length = 0
    · rw [if_pos h2] at h; cases h
    · rw [if_neg h2] at h ⊢
      by_cases h3 : 400 < sumLen R
      · rw [if_pos h3] at h; cases h
      · rw [if_neg h3, firstP_none (f := fun i => decide ((ringCheckP (R.getD i [])).1 ≠ 0)) hq]
        rfl
theorem fault_endG {fn : Func} {p : Tmp} {x : Int × Int} {w w2 w3 : World} {a : Act} {u v : Int} {g : Nat} (hg : w.heap.size ≤ g) (h : fn.results = #[.cell p 35]) (hp : a.tmps.getD p undef = .pointer (some ⟨g, 0, none⟩)) (hd : a.defers = [])
    (hr : Hid (Below w.heap.size w w2 ∧ w2.heap[g]? = some (.cells #[.int .i64 0, .int .i64 0] 35 (0, 0)))) (hw : w3 = (w2.setCell ⟨g, 0, none⟩ (.int .i64 u)).setCell ⟨g, 1, none⟩ (.int .i64 v)) (ho : x = (u, v)) :
    bodyPost Tryz.prog fn (fun e w' => e = .returned (faultV x) ∧ Below w.heap.size w w') .ret a w3 := by
  subst hw ho
  exact bodyPost_ret (results_cell_row h a.tmps _ _ _ _ _ _ hp (put_two hr.out.2 _ _) Tryz.underlying35 rfl (by kernel_rfl)) hd ⟨rfl, (hr.out.1.setCell (p := ⟨g, 0, none⟩) hg _).setCell (p := ⟨g, 1, none⟩) hg _⟩
/-- the fault's cell lies behind the region's box. -/
theorem fault_cellsR {w W0 w2 : World} (hs : W0.heap.size = w.heap.size + 2) (hb0 : Below w.heap.size w W0) (hr : W0.heap[w.heap.size + 1]? = some (.cells #[.int .i64 0, .int .i64 0] 35 (0, 0))) (hg : Below W0.heap.size W0 w2) :
    w2.cell? ⟨w.heap.size + 1, 0, none⟩ = some (.int .i64 0) ∧ w2.cell? ⟨w.heap.size + 1, 1, none⟩ = some (.int .i64 0) ∧ w2.frozen? ⟨w.heap.size + 1, 0, none⟩ = false ∧ w2.frozen? ⟨w.heap.size + 1, 1, none⟩ = false ∧ Hid (Below w.heap.size w w2 ∧ w2.heap[w.heap.size + 1]? = some (.cells #[.int .i64 0, .int .i64 0] 35 (0, 0))) := by
  have hr := (hg.block (w.heap.size + 1) (by omega)).trans hr
  exact ⟨cell_of_row _ _ _ _ _ _ hr, cell_of_row _ _ _ _ _ _ hr, frozen_of_row _ _ _ _ _ hr, frozen_of_row _ _ _ _ _ hr, Lib.hid ⟨hb0.trans (hg.mono (by omega)), hr⟩⟩
set_option maxRecDepth 100000 in
set_option maxHeartbeats 4000000 in
theorem Check_region (ao : Option Addr) (n cap : Nat) (R : List (List Pt)) (w : World) (h : IsRings w ao n cap R) (hs : sumLen R ≤ 1000000000000) :
    Calls Tryz.prog 27 #[.agg #[.slice ao n cap]] w fun e w' => e = .returned (faultV (regionCheckP R)) ∧ Below w.heap.size w w' := by
  have HI := Lib.hid h
  have hcm := h.2.2.1
  have hnc := h.2.1
  have HL := Lib.hid h.1
  unfold maxLen at hcm
  obtain ⟨W0, hW0⟩ : ∃ W, W = (w.alloc (.cells #[.slice ao n cap] 30)).alloc (.cells #[.int .i64 0, .int .i64 0] 35) := ⟨_, rfl⟩
  have a0 : W0.heap[w.heap.size]? = some (.cells #[.slice ao n cap] 30 (0, 0)) := by rw [hW0]; exact (Below.heap_alloc _ _ _ (by simp)).trans (alloc_new _ _)
  have a1 : W0.heap[w.heap.size + 1]? = some (.cells #[.int .i64 0, .int .i64 0] 35 (0, 0)) := by rw [hW0]; exact alloc_new2 _ _ _
  have hs0 : W0.heap.size = w.heap.size + 2 := by rw [hW0]; simp
  have hg0 : Grew w W0 := by rw [hW0]; exact ((Grew.refl _).alloc _).alloc _
  have HSZ := Lib.hid (size_region ao n cap R W0 (h.grew hg0) hs)
  have H0 := Lib.hid (And.intro a0 (And.intro a1 (And.intro hs0 hg0)))
  obtain ⟨z, hz⟩ : ∃ z, z = sizeRP n (sumLen R) := ⟨_, rfl⟩
  rw [← hz] at HSZ
  have HZ : Hid (z = sizeRP R.length (sumLen R)) := Lib.hid (by rw [h.1]; exact hz)
  have c0 : W0.cell? ⟨w.heap.size, 0, none⟩ = some (.slice ao n cap) := cell_of_row _ _ _ _ _ _ a0
  rw [hW0] at c0
  clear h hs hz a0 a1 hs0 hg0
  go_enter Tryz.func27, Tryz.ntmps27
  go_wp2_with fail
  rw [← hW0]
  have HW0 := Lib.hid hW0
  clear hW0 c0
  refine HSZ.out.mono ?_
  rintro e w1 ⟨rfl, hg1⟩
  have HB1 := Lib.hid hg1.1
  clear hg1
  by_cases hz : z = 0
  · subst hz
    have hl0 := H0.out.2.2.1
    have c1 : w1.cell? ⟨w.heap.size, 0, none⟩ = some (.slice ao n cap) := cell_of_row _ _ _ _ _ _ ((HB1.out.block w.heap.size (by omega)).trans H0.out.1)
    clear hl0
    go_wp2_with fail
    go_loopw [18] (fun i wr => ∃ k : Nat, k ≤ n ∧ i = .int .i64 k ∧ Hid (∀ j, j < k → badRing R j = false) ∧ Hid (Below W0.heap.size W0 wr)) (fun i _ => n - (intOf i).toNat)
    case atStart => exact ⟨0, by omega, rfl, (fun j hj => absurd hj (by omega)), HB1.out⟩
    case round =>
      clear c1
      obtain ⟨k, hk, rfl, hq, hb⟩ := hrel
      by_cases hlt : k < n
      · have hi0 : (0 : Int) ≤ (k : Int) := by omega
        have hi5 : (k : Int) < (n : Int) := by omega
        obtain ⟨b, off, x, y, z, rfl, e0, hp⟩ := ((HI.out.later H0.out.2.2.2.1 (Nat.le_refl _)).later hb.out (Nat.le_refl _)).2.2.2.2 k hlt
        have HC := Lib.hid (Check_ring x y z (R.getD k []) wr hp)
        have hbr : badRing R k = decide ((ringCheckP (R.getD k [])).1 ≠ 0) := rfl
        obtain ⟨f, hf⟩ : ∃ f, f = ringCheckP (R.getD k []) := ⟨_, rfl⟩
        rw [← hf] at HC hbr
        have HBR := Lib.hid hbr
        have HF := Lib.hid hf
        obtain ⟨f, g⟩ := f
        clear hp hbr hf
        unfold faultV at HC
        dsimp only at HC
        go_wp2_with fail
        refine HC.out.mono ?_
        rintro e w2 ⟨rfl, hb2⟩
        have hb3 : Below W0.heap.size W0 (w2.alloc (.cells #[.int .i64 f, .int .i64 g] 35)) := (hb.out.trans (hb2.mono hb.out.size)).alloc (Nat.le_trans hb.out.size hb2.size) _
        have HB3 := Lib.hid hb3
        clear hb2 e0
        by_cases hz : f = 0
        · subst hz
          clear hb3
          go_wp2_with fail
          go_roundw
          case rel =>
            refine ⟨k + 1, by omega, by go_num, Lib.hid fun j hj => ?_, Lib.hid HB3.out⟩
            by_cases hik : j < k
            · exact hq.out j hik
            · obtain rfl : j = k := by omega
              rw [HBR.out]; rfl
          case measure => simp [intOf]; omega
        · obtain ⟨k0, k1, f0, f1, HG⟩ := fault_cellsR H0.out.2.2.1 H0.out.2.2.2.1 H0.out.2.1 hb3
          have hzz : (f == 0) = false := by simp [hz]
          have hzz2 : (f != 0) = true := by simp [hz]
          have HNZ := Lib.hid hz
          clear hz hb3
          go_wp2_with fail
          change bodyPost Tryz.prog Tryz.f27 (fun e w' => e = .returned (faultV (regionCheckP R)) ∧ Below w.heap.size w w') .ret _ _
          refine fault_endG (Nat.le_succ _) rfl rfl rfl HG rfl ?_
          rw [regionCheck_ring HZ.out.symm (by rw [HL.out]; exact hlt) hq.out (by rw [HBR.out]; exact decide_eq_true HNZ.out), ← HF.out]
      · obtain rfl : k = n := by omega
        have hi5 : ¬ ((k : Int) < (k : Int)) := by omega
        have HRC : Hid (regionCheckP R = match firstP R.length (badPair R) with
          | some i => (210, (i : Int))
          | none => (0, 0)) := Lib.hid (regionCheck_rest HZ.out.symm (by rw [HL.out]; exact hq.out))
        have HOK : Hid (∀ r ∈ R, OkR r) := Lib.hid (fun r hr => by
          obtain ⟨i, hi, rfl⟩ := List.mem_iff_getElem.1 hr
          have := hq.out i (by rw [← HL.out]; exact hi)
          unfold badRing at this
          rw [List.getD_eq_getElem?_getD, List.getElem?_eq_getElem hi] at this
          exact okR (by simpa using this))
        obtain ⟨wA, hwA⟩ : ∃ x, x = wr := ⟨_, rfl⟩
        have hbA : Below W0.heap.size W0 wA := by rw [hwA]; exact hb.out
        have HBA := Lib.hid hbA
        have hl0 := H0.out.2.2.1
        have c1 : wr.cell? ⟨w.heap.size, 0, none⟩ = some (.slice ao k cap) := cell_of_row _ _ _ _ _ _ ((hb.out.block w.heap.size (by omega)).trans H0.out.1)
        clear hbA hq hl0 hwA
        go_wp2_with fail
        clear c1
        go_loopw [36] (fun i wr => ∃ j : Nat, j ≤ k ∧ i = .int .i64 j ∧ Hid (∀ t, t < j → badPair R t = false) ∧ Hid (Below W0.heap.size W0 wr)) (fun i _ => k - (intOf i).toNat)
        case atStart => exact ⟨0, by omega, rfl, (fun j hj => absurd hj (by omega)), hb⟩
        case round =>
          clear hb
          obtain ⟨j, hj, rfl, hq, hb⟩ := hrel
          by_cases hlt : j < k
          · have hj0 : (0 : Int) ≤ (j : Int) := by omega
            have hj5 : (j : Int) < (k : Int) := by omega
            have hrs : IsRings wr ao k cap R := (HI.out.later H0.out.2.2.2.1 (Nat.le_refl _)).later hb.out (Nat.le_refl _)
            obtain ⟨b, off, x, y, z, rfl, e0, hp⟩ := hrs.2.2.2.2 j hlt
            have hal : Below wr.heap.size wr (wr.alloc (.cells #[.slice x y z] 40)) := (Below.refl _ _).alloc (Nat.le_refl _) _
            have hdr := (hrs.later hal (Nat.le_refl _)).dropped (k := j + 1) (by omega)
            have hmem : R.getD j [] ∈ R := by rw [List.getD_eq_getElem?_getD, List.getElem?_eq_getElem (by rw [HL.out]; exact hlt)]; exact List.getElem_mem _
            have hbp : badPair R j = (R.drop (j + 1)).any (ringsMeet (R.getD j [])) := rfl
            obtain ⟨p, hpe⟩ : ∃ p, p = (R.drop (j + 1)).any (ringsMeet (R.getD j [])) := ⟨_, rfl⟩
            rw [← hpe] at hbp
            have HBP := Lib.hid hbp
            have hl0 := H0.out.2.2.1
            have c1 : (wr.alloc (.cells #[.slice x y z] 40)).cell? ⟨w.heap.size, 0, none⟩ = some (.slice (some ⟨b, off, none⟩) k cap) := cell_of_row _ _ _ _ _ _ ((hal.block w.heap.size (by have := hb.out.size; omega)).trans ((hb.out.block w.heap.size (by omega)).trans H0.out.1))
            have hen := enters_of Tryz.func44 (by kernel_rfl) rfl
            have HAL := Lib.hid (hb.out.alloc hb.out.size (.cells #[.slice x y z] 40))
            have hj1 : (0 : Int) ≤ (j : Int) + 1 := by omega
            have hj2 : (j : Int) + 1 ≤ (k : Int) := by omega
            by_cases hcj : cap = j + 1
            · rw [if_pos hcj] at hdr
              obtain rfl : cap = k := by omega
              have hcj2 := hcj.symm
              have hdr : IsRings (wr.alloc (.cells #[.slice x y z] 40)) (some ⟨b, off, none⟩) 0 0 (R.drop (j + 1)) := by
                have e : cap - (j + 1) = 0 := by omega
                rw [e] at hdr
                exact hdr
              clear hcj
              have HC := Lib.hid (ContainsR_any wr.heap.size x y z (R.getD j []) _ _ _ (R.drop (j + 1)) _ (alloc_cell wr _ _) (hp.later hal (Nat.le_refl _)) hdr (HOK.out _ hmem) (fun r hr => HOK.out r (List.mem_of_mem_drop hr)))
              rw [← hpe] at HC
              clear hrs hp hdr hmem hpe hbp hl0 hal
              cases p with
              | true =>
                go_wp2_with fail
                (with_reducible refine HC.out.mono ?_)
                rintro e w2 ⟨rfl, hb2⟩
                obtain ⟨k0, k1, f0, f1, HG⟩ := fault_cellsR H0.out.2.2.1 H0.out.2.2.2.1 H0.out.2.1 (HAL.out.trans (hb2.mono HAL.out.size))
                clear hb2 e0 c1
                go_wp2_with fail
                change bodyPost Tryz.prog Tryz.f27 (fun e w' => e = .returned (faultV (regionCheckP R)) ∧ Below w.heap.size w w') .ret _ _
                refine fault_endG (Nat.le_succ _) rfl rfl rfl HG rfl ?_
                rw [HRC.out, firstP_some (by rw [HL.out]; exact hlt) HBP.out hq.out]
              | false =>
                go_wp2_with fail
                (with_reducible refine HC.out.mono ?_)
                rintro e w2 ⟨rfl, hb2⟩
                have HB2 := Lib.hid (HAL.out.trans (hb2.mono HAL.out.size))
                clear hb2 e0 c1
                go_wp2_with fail
                go_roundw
                case rel =>
                  refine ⟨j + 1, by omega, by go_num, Lib.hid fun t ht => ?_, HB2⟩
                  by_cases hik : t < j
                  · exact hq.out t hik
                  · obtain rfl : t = j := by omega
                    exact HBP.out
                case measure => simp [intOf]; omega
            · rw [if_neg hcj] at hdr
              have HC := Lib.hid (ContainsR_any wr.heap.size x y z (R.getD j []) _ _ _ (R.drop (j + 1)) _ (alloc_cell wr _ _) (hp.later hal (Nat.le_refl _)) hdr (HOK.out _ hmem) (fun r hr => HOK.out r (List.mem_of_mem_drop hr)))
              rw [← hpe] at HC
              clear hrs hp hdr hmem hpe hbp hl0 hal
              cases p with
              | true =>
                go_wp2_with fail
                (with_reducible refine HC.out.mono ?_)
                rintro e w2 ⟨rfl, hb2⟩
                obtain ⟨k0, k1, f0, f1, HG⟩ := fault_cellsR H0.out.2.2.1 H0.out.2.2.2.1 H0.out.2.1 (HAL.out.trans (hb2.mono HAL.out.size))
                clear hb2 e0 c1
                go_wp2_with fail
                change bodyPost Tryz.prog Tryz.f27 (fun e w' => e = .returned (faultV (regionCheckP R)) ∧ Below w.heap.size w w') .ret _ _
                refine fault_endG (Nat.le_succ _) rfl rfl rfl HG rfl ?_
                rw [HRC.out, firstP_some (by rw [HL.out]; exact hlt) HBP.out hq.out]
              | false =>
                go_wp2_with fail
                (with_reducible refine HC.out.mono ?_)
                rintro e w2 ⟨rfl, hb2⟩
                have HB2 := Lib.hid (HAL.out.trans (hb2.mono HAL.out.size))
                clear hb2 e0 c1
                go_wp2_with fail
                go_roundw
                case rel =>
                  refine ⟨j + 1, by omega, by go_num, Lib.hid fun t ht => ?_, HB2⟩
                  by_cases hik : t < j
                  · exact hq.out t hik
                  · obtain rfl : t = j := by omega
                    exact HBP.out
                case measure => simp [intOf]; omega
          · obtain rfl : j = k := by omega
            have hj5 : ¬ ((j : Int) < (j : Int)) := by omega
            obtain ⟨k0, k1, f0, f1, HG⟩ := fault_cellsR H0.out.2.2.1 H0.out.2.2.2.1 H0.out.2.1 hb.out
            go_wp2_with fail
            refine fault_endG (Nat.le_succ _) rfl rfl rfl HG rfl ?_
            rw [HRC.out, firstP_none (by rw [HL.out]; exact hq.out)]
  · obtain ⟨k0, k1, f0, f1, HG⟩ := fault_cellsR H0.out.2.2.1 H0.out.2.2.2.1 H0.out.2.1 HB1.out
    have hzz : (z == 0) = false := by simp [hz]
    have hzz2 : (z != 0) = true := by simp [hz]
    have HNZ := Lib.hid hz
    clear hz
    go_wp2_with fail
    exact fault_endG (Nat.le_succ _) rfl rfl rfl HG rfl (regionCheck_size HZ.out HNZ.out)
end Go.Proofs.YtjiiikeniocmfaaGreat
