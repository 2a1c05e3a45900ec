/- the document's index (printed by mkiref14.py) -/
import Derived.Test.YtjiiikeniocmfaaGreatMIAt
import Derived.Test.YtjiiikeniocmfaaGreatMIBuild
import Derived.Test.YtjiiikeniocmfaaGreatMQUnlike
import Derived.Test.YtjiiikeniocmfaaGreatMQRegIn
import Derived.Test.YtjiiikeniocmfaaGreatMR11
import Derived.Test.YtjiiikeniocmfaaGreatMBRAsk
import Derived.Test.YtjiiikeniocmfaaGreatMSEqF
import Derived.Test.YtjiiikeniocmfaaGreatMSlabW
set_option linter.unusedSimpArgs false
set_option linter.unusedVariables false
namespace Go.Proofs.YtjiiikeniocmfaaGreat
open Go.RowKit Go.Geo
attribute [local go_sem] Oper.semAt_some
theorem fault_row_at {w : World} {g : Nat} {a b : Int} (h : w.heap[g]? = some (.cells #[.int .i64 a, .int .i64 b] 35 (0, 0))) : w.cell? ⟨g, 0, none⟩ = some (.int .i64 a) ∧ w.cell? ⟨g, 1, none⟩ = some (.int .i64 b) := ⟨cell_of_row _ _ _ _ _ _ h, cell_of_row _ _ _ _ _ _ h⟩
set_option maxRecDepth 100000 in
set_option maxHeartbeats 4000000 in
theorem rCheck14_any (ao : Option Addr) (n cap : Nat) (G : List Reg) (w : World) (h : IsRegs w ao n cap G) (hs : ∀ i, i < n → sumLen (G.getD i []) ≤ 1000000000000) :
    Calls Tryz.prog 20 #[.slice ao n cap] w fun e w' => e = .returned (faultV (idxCheckP G)) ∧ Below w.heap.size w w' := by
  have HI := Lib.hid h
  have HS := Lib.hid hs
  have hcm := h.2.2.1
  have hnc := h.2.1
  have HL := Lib.hid h.1
  unfold maxLen at hcm
  have hA : Below w.heap.size w (w.alloc (.cells #[.int .i64 0, .int .i64 0] 35)) := (Below.refl _ _).alloc (Nat.le_refl _) _
  have HIA := Lib.hid (h.later hA (Nat.le_refl _))
  obtain ⟨fx, hfx⟩ : ∃ f, f = idxCheckP G := ⟨_, rfl⟩
  rw [← hfx]
  have HFX := Lib.hid hfx
  clear h hs hA hfx
  by_cases hlong : 64 < n
  · have hl1 : (64 : Int) < (n : Int) := by omega
    have hres : Hid (fx = (3, 0)) := Lib.hid (by rw [HFX.out]; unfold idxCheckP; rw [HL.out, if_pos hlong])
    clear hlong
    go_enter Tryz.func20, Tryz.ntmps20
    go_wp2_with fail
    exact bodyPost_ret (results_cell_row rfl _ _ _ _ _ _ _ rfl (alloc_new _ _) Tryz.underlying35 rfl (by kernel_rfl)) rfl ⟨by rw [hres.out]; rfl, (Below.refl _ _).alloc (Nat.le_refl _) _⟩
  · have hl1 : ¬ (64 : Int) < (n : Int) := by omega
    have HN := Lib.hid hlong
    clear hlong
    go_enter Tryz.func20, Tryz.ntmps20
    go_wp2_with fail
    obtain ⟨W0, hW0⟩ : ∃ W, W = w.alloc (.cells #[.int .i64 0, .int .i64 0] 35) := ⟨_, rfl⟩
    have HW0 := Lib.hid hW0
    rw [← hW0] at HIA ⊢
    clear hW0
    go_loopw [3] (fun i wr => ∃ k : Nat, k ≤ n ∧ i = .int .i64 k ∧ Hid (∀ j, j < k → (regionCheckP (G.getD j [])).1 = 0) ∧ Hid (Below W0.heap.size W0 wr)) (fun i _ => n - (intOf i).toNat)
    case atStart => exact ⟨0, by omega, rfl, Lib.hid (fun j hj => absurd hj (by omega)), Below.refl _ _⟩
    case round =>
      obtain ⟨k, hk, rfl, hall, hB⟩ := hrel
      by_cases hlt : k < n
      · have hk5 : (k : Int) < (n : Int) := by omega
        have hk0 : (0 : Int) ≤ (k : Int) := by omega
        obtain ⟨b, off, x, y, z, rfl, e0, hr⟩ := (HIA.out.later hB.out (Nat.le_refl _)).2.2.2.2 k hlt
        have HRC := Lib.hid (rCheck_region x y z (G.getD k []) wr hr (HS.out k hlt))
        clear hr
        obtain ⟨fa, fb, hfk⟩ : ∃ a b : Int, regionCheckP (G.getD k []) = (a, b) := ⟨_, _, rfl⟩
        rw [hfk] at HRC
        unfold faultV at HRC
        have HFK := Lib.hid hfk
        clear hfk
        go_wp2_with fail
        refine HRC.out.mono ?_
        rintro e w2 ⟨rfl, hb2⟩
        have HB2 := Lib.hid (hB.out.trans (hb2.mono hB.out.size))
        have e0' := (hb2.cell (p := ⟨b, off + k, none⟩) (block_lt_of_cell e0)).trans e0
        clear hb2 e0 HRC
        by_cases hz : fa = 0
        · subst hz
          have HALL : Hid (∀ j, j < k + 1 → (regionCheckP (G.getD j [])).1 = 0) := Lib.hid (fun j hj => by
            by_cases hjk : j = k
            · subst hjk; rw [HFK.out]
            · exact hall.out j (by omega))
          go_wp2_with fail
          go_roundw
          case rel => exact ⟨k + 1, by omega, by go_num, HALL, Lib.hid (HB2.out.alloc (by have := HB2.out.size; omega) _)⟩
          case measure => simp [intOf]; omega
        · have hz2 : (fa == 0) = false := by simp [hz]
          have hres : Hid (fx = (fa, (k : Int))) := Lib.hid (by
            rw [HFX.out, idxCheck_at (by rw [HL.out]; have := HN.out; omega) (by rw [HL.out]; exact hlt) hall.out (by rw [HFK.out]; exact hz), HFK.out])
          have hb9 : Below (w.heap.size + 1) (w.alloc (.cells #[.int .i64 0, .int .i64 0] 35)) (w2.alloc (.cells #[.int .i64 fa, .int .i64 fb] 35)) := by
            have h1 := HB2.out.alloc (o := .cells #[.int .i64 fa, .int .i64 fb] 35) (by have := HB2.out.size; omega)
            rw [HW0.out] at h1
            simpa using h1
          obtain ⟨k0, k1, f0, f1, HG⟩ := fault_cellsB hb9
          clear hz hb9
          go_wp2_with fail
          exact fault_end rfl rfl rfl HG rfl hres.out
      · have hkn : n = k := by omega
        subst hkn
        have hk5 : ¬ (n : Int) < (n : Int) := by omega
        have hres : Hid (fx = (0, 0)) := Lib.hid (by rw [HFX.out, idxCheck_ok (by rw [HL.out]; have := HN.out; omega) (fun i hi => hall.out i (by rw [HL.out] at hi; exact hi))])
        have hb9 : Below (w.heap.size + 1) (w.alloc (.cells #[.int .i64 0, .int .i64 0] 35)) wr := by
          have h1 := hB.out
          rw [HW0.out] at h1
          simpa using h1
        obtain ⟨k0, k1, f0, f1, HG⟩ := fault_cellsB hb9
        clear hb9
        go_wp2_with fail
        exact fault_end rfl rfl rfl HG rfl hres.out
set_option maxRecDepth 100000 in
set_option maxHeartbeats 4000000 in
theorem rAt14_any (ao : Option Addr) (n cap : Nat) (G : List Reg) (p : Pt) (w : World) (h : IsRegs w ao n cap G) (hn64 : n ≤ 1000) :
    Calls Tryz.prog 23 #[.slice ao n cap, ptV p] w fun e w' => ∃ v, e = .returned v ∧ OwnI w' w.heap.size v (askG (inR p) G) ∧ Below w.heap.size w w' := by
  obtain ⟨bp, hbp⟩ : ∃ b, b = w.heap.size := ⟨_, rfl⟩
  obtain ⟨W, hW⟩ : ∃ W, W = w.alloc (.cells #[.int .i64 p.x, .int .i64 p.y] 24) := ⟨_, rfl⟩
  have hb0 : Below w.heap.size w W := by rw [hW]; exact (Below.refl _ _).alloc (Nat.le_refl _) _
  have hp : W.heap[bp]? = some (.cells #[.int .i64 p.x, .int .i64 p.y] 24 (0, 0)) := by rw [hW, hbp]; exact alloc_new _ _
  have HI := Lib.hid (h.later hb0 (Nat.le_refl _))
  have HP := Lib.hid hp
  have HB0 := Lib.hid hb0
  have HL := Lib.hid h.1
  have hnc := h.2.1
  have hcm := h.2.2.1
  unfold maxLen at hcm
  unfold ptV
  clear h hb0 hp
  go_enter Tryz.func23, Tryz.ntmps23
  go_wp2_with fail
  rw [← hW, ← hbp]
  clear hW hbp
  go_loopw [5, 6] (fun ov kv wr => ∃ k : Nat, k ≤ n ∧ kv = .int .i64 k ∧ Hid (OwnI wr W.heap.size ov ((allI k).filter (fun x => inR p (regI G x)))) ∧ Hid (Below W.heap.size W wr)) (fun _ kv _ => n - (intOf kv).toNat)
  case atStart => exact ⟨0, by omega, rfl, Lib.hid (OwnI.nil _ _), Below.refl _ _⟩
  case round =>
    obtain ⟨k, hk, rfl, HOW, HBW⟩ := hrel
    by_cases hlt : k < n
    · have hk5 : (k : Int) < (n : Int) := by omega
      have hk0 : (0 : Int) ≤ (k : Int) := by omega
      have hwk : IntKind.i64.wrap ((k : Int) + 1) = (k : Int) + 1 := IntWalk.i64_in _ (by omega)
      obtain ⟨b, off, x, y, z, rfl, e0, hr⟩ := (HI.out.later HBW.out (Nat.le_refl _)).2.2.2.2 k hlt
      have hpr := (HBW.out.block bp (heap_lt' HP.out)).trans HP.out
      have HCELLS : Hid (∀ wX, Below wr.heap.size wr wX → wX.cell? ⟨bp, 0, none⟩ = some (.int .i64 p.x) ∧ wX.cell? ⟨bp, 1, none⟩ = some (.int .i64 p.y) ∧ wX.cell? ⟨b, off + k, none⟩ = some (.slice x y z)) := Lib.hid (fun wX hX => by
        have q := (hX.block bp (heap_lt' hpr)).trans hpr
        exact ⟨cell_of_row _ _ _ _ _ _ q, cell_of_row _ _ _ _ _ _ q, (hX.cell (p := ⟨b, off + k, none⟩) (block_lt_of_cell e0)).trans e0⟩)
      obtain ⟨r, hrr⟩ : ∃ r, r = inR p (G.getD k []) := ⟨_, rfl⟩
      have HIN : Hid (∀ wX, Below wr.heap.size wr wX → Calls Tryz.prog 37 #[.agg #[.int .i64 p.x, .int .i64 p.y], .agg #[.slice x y z]] wX fun e w' => e = .returned (.bool r) ∧ Below wX.heap.size wX w') := Lib.hid (fun wX hX => by
        rw [hrr]
        refine (rIn_region p x y z (G.getD k []) wX (hr.later hX (Nat.le_refl _))).mono ?_
        rintro e w' ⟨rfl, hg⟩
        exact ⟨rfl, hg.1⟩)
      have hst : (allI (k + 1)).filter (fun x => inR p (regI G x)) = (allI k).filter (fun x => inR p (regI G x)) ++ (if r then [(k : Int)] else []) := by
        rw [allI_succ, List.filter_append, hrr]
        have : regI G (k : Int) = G.getD k [] := by simp [regI]
        simp only [List.filter_cons, List.filter_nil, this]
      have HST := Lib.hid hst
      clear e0 hr hpr hrr hst
      go_wp2_with fail
      have HOK : ∀ f ∈ ([] : List Fct), FctOk f := by
        intro f hf; cases hf
      refine wp_region_J (s := [(13, 0), (14, 1), (15, 2), (16, 3), (17, 4), (18, 5)]) (by kernel_rfl) (GrowJ wr (fun iX => match iX with | 0 => some (.agg #[.int .i64 p.x, .int .i64 p.y]) | 1 => some (.slice (some ⟨b, off, none⟩) n cap) | 2 => some (.int .i64 (k : Int)) | 3 => some (.pointer (some ⟨b, off + k, none⟩)) | 4 => some (.agg #[.slice x y z]) | 5 => some (.bool r) | _ => none) []) (by kernel_rfl) (by kernel_rfl) (by kernel_rfl) (by kernel_rfl) (fun _ => undef) ?start5 ?step5 ?done5
      case start5 => exact GrowJ.start ((Below.refl _ _).drew)
      case step5 =>
        refine ⟨?o5_0, ?o5_1, ?o5_2, ?o5_3, ?o5_4, ?o5_5, trivial⟩
        case o5_0 =>
          intro LX V aX wX K hl hp hcl hf hJ hK
          have t3 : aX.tmps[3]? = some (.pointer (some ⟨bp, 0, none⟩)) := hf.old (by kernel_rfl) rfl
          obtain ⟨c0, c1, c2⟩ := HCELLS.out wX hJ.below
          rw [if_pos (by rfl)]
          go_simp
          exact hK _ _ (hJ.val HOK 0 _ (by kernel_rfl) rfl (Below.refl _ _))
        case o5_1 =>
          intro LX V aX wX K hl hp hcl hf hJ hK
          have t0 : aX.tmps[0]? = some (.slice (some ⟨b, off, none⟩) n cap) := hf.old (by kernel_rfl) rfl
          rw [if_pos (by rfl)]
          go_simp
          exact hK _ _ (hJ.val HOK 1 _ (by kernel_rfl) rfl (Below.refl _ _))
        case o5_2 =>
          intro LX V aX wX K hl hp hcl hf hJ hK
          have t6 : aX.tmps[6]? = some (.int .i64 (k : Int)) := hf.old (by kernel_rfl) rfl
          rw [if_pos (by rfl)]
          go_simp
          exact hK _ _ (hJ.val HOK 2 _ (by kernel_rfl) rfl (Below.refl _ _))
        case o5_3 =>
          intro LX V aX wX K hl hp hcl hf hJ hK
          have t14 := hf.in (i := 1) (d := 14) (by kernel_rfl) (hp 1 (by kernel_rfl)) (hJ.vals 1 _ rfl (hp 1 (by kernel_rfl)))
          have t15 := hf.in (i := 2) (d := 15) (by kernel_rfl) (hp 2 (by kernel_rfl)) (hJ.vals 2 _ rfl (hp 2 (by kernel_rfl)))
          rw [if_pos (by rfl)]
          go_simp
          exact hK _ _ (hJ.val HOK 3 _ (by kernel_rfl) rfl (Below.refl _ _))
        case o5_4 =>
          intro LX V aX wX K hl hp hcl hf hJ hK
          have t16 := hf.in (i := 3) (d := 16) (by kernel_rfl) (hp 3 (by kernel_rfl)) (hJ.vals 3 _ rfl (hp 3 (by kernel_rfl)))
          obtain ⟨c0, c1, c2⟩ := HCELLS.out wX hJ.below
          rw [if_pos (by rfl)]
          go_simp
          exact hK _ _ (hJ.val HOK 4 _ (by kernel_rfl) rfl (Below.refl _ _))
        case o5_5 =>
          intro LX V aX wX K hl hp hcl hf hJ hK
          have t13 := hf.in (i := 0) (d := 13) (by kernel_rfl) (hp 0 (by kernel_rfl)) (hJ.vals 0 _ rfl (hp 0 (by kernel_rfl)))
          have t17 := hf.in (i := 4) (d := 17) (by kernel_rfl) (hp 4 (by kernel_rfl)) (hJ.vals 4 _ rfl (hp 4 (by kernel_rfl)))
          rw [if_pos (by rfl)]
          go_simp
          refine (HIN.out _ hJ.below).mono ?_
          rintro e wA ⟨rfl, hbA⟩
          exact hK _ _ (hJ.val HOK 5 _ (by kernel_rfl) rfl (hbA))
      intro V wZ hJ
      have hv := hJ.vals 5 _ rfl (by kernel_rfl)
      have HBZ := Lib.hid hJ.below
      simp only [puts, Act.put, List.setIfInBounds_toArray, List.set_cons_zero, List.set_cons_succ]
      rw [hv]
      clear hJ HOK hv
      cases r with
      | false =>
        go_wp2_with fail
        go_roundw
        case rel => exact ⟨k + 1, by omega, by go_num, Lib.hid (by rw [HST.out]; simpa using HOW.out.later HBZ.out), HBW.out.trans (HBZ.out.mono HBW.out.size)⟩
        case measure => simp [intOf]; omega
      | true =>
        have HKL : Hid (((allI k).filter (fun x => inR p (regI G x))).length + 1 ≤ 1000000000) := Lib.hid (by
          have := List.length_filter_le (fun x => inR p (regI G x)) (allI k)
          rw [allI_len] at this
          omega)
        have HOZ := Lib.hid (HOW.out.later HBZ.out)
        have HBY := Lib.hid (HBW.out.trans (HBZ.out.mono HBW.out.size))
        go_wp2_with (at_builtin; refine wpList_append_intsF rfl _ _ rfl W.heap.size u5 ((allI k).filter (fun x => inR p (regI G x))) rfl (HOZ.out.later ((Below.refl _ _).alloc (Nat.le_refl _) _)) _ _ _ [(k : Int)] rfl (one_ints wZ (k : Int)) HKL.out (by have := HBY.out.size; simp; omega) ?_
                     intro v' w9 hov hgr hfr
                     have hown9 := hov
                     obtain ⟨av, cv, hv', _⟩ := hov.ints
                     have HN9 := Lib.hid (And.intro hown9 hgr)
                     clear hown9 hgr hfr hov)
        have hv2 : v' = .slice av (((allI k).filter (fun x => inR p (regI G x))).length + 1) cv := by rw [hv', List.length_append]; rfl
        rw [← hv2]
        obtain ⟨o9, g9⟩ := HN9.out
        have hal : Below wZ.heap.size wZ (wZ.alloc (Obj.cells #[Value.int IntKind.i64 (k : Int)] 3)) := (Below.refl _ _).alloc (Nat.le_refl _) _
        refine ⟨⟨k + 1, by omega, by go_num, Lib.hid (by rw [HST.out]; exact o9), Lib.hid ((HBY.out.trans (hal.mono HBY.out.size)).grown g9 (Nat.le_trans HBY.out.size hal.size) (fun q hq => (HOW.out.lt q hq).1))⟩, ?_⟩
        simp [intOf]; omega
    · have hkn : n = k := by omega
      subst hkn
      have hk5 : ¬ (n : Int) < (n : Int) := by omega
      go_wp2_with fail
      go_ret
      have h2 := HOW.out
      unfold askG
      rw [HL.out]
      exact ⟨_, rfl, h2.base HB0.out.size, HB0.out.trans (HBW.out.mono HB0.out.size)⟩
/-- near a point: in its box. -/
def nearR (p : Pt) (R : Reg) : Bool := match boundsP R.flatten with | some (lo, hi) => boxIn p lo hi | none => false
theorem near_zero (p : Pt) : boxIn p p0 p0 = false := by
  unfold boxIn p0
  simp only [Bool.and_eq_false_iff, decide_eq_false_iff_not]
  omega
theorem near_ask (G : List Reg) (p : Pt) : askG (nearR p) G = askB (nearQ p) (boxesR G) := by
  rw [askB_filter, boxesR_len]
  unfold askG
  refine List.filter_congr fun x hx => ?_
  obtain ⟨h0, h1⟩ := allI_mem.1 hx
  obtain ⟨i, rfl⟩ : ∃ i : Nat, x = (i : Int) := ⟨x.toNat, by omega⟩
  have hi : i < G.length := by omega
  rw [bxI_nat, boxesR_get hi]
  have hr : regI G (i : Int) = G.getD i [] := by simp [regI]
  rw [hr]
  unfold nearR nearQ
  cases boundsP (G.getD i []).flatten with
  | none => exact (near_zero p).symm
  | some q => rfl
set_option maxRecDepth 100000 in
set_option maxHeartbeats 4000000 in
theorem rNear14_any (ao : Option Addr) (n cap : Nat) (G : List Reg) (p : Pt) (w : World) (h : IsRegs w ao n cap G) (hn64 : n ≤ 1000) (hs : ∀ i, i < n → sumLen (G.getD i []) ≤ 1000000) :
    Calls Tryz.prog 24 #[.slice ao n cap, ptV p] w fun e w' => ∃ v, e = .returned v ∧ OwnI w' w.heap.size v (askB (nearQ p) (boxesR G)) ∧ Below w.heap.size w w' := by
  rw [← near_ask]
  obtain ⟨bp, hbp⟩ : ∃ b, b = w.heap.size := ⟨_, rfl⟩
  obtain ⟨W, hW⟩ : ∃ W, W = w.alloc (.cells #[.int .i64 p.x, .int .i64 p.y] 24) := ⟨_, rfl⟩
  have hb0 : Below w.heap.size w W := by rw [hW]; exact (Below.refl _ _).alloc (Nat.le_refl _) _
  have hp : W.heap[bp]? = some (.cells #[.int .i64 p.x, .int .i64 p.y] 24 (0, 0)) := by rw [hW, hbp]; exact alloc_new _ _
  have HI := Lib.hid (h.later hb0 (Nat.le_refl _))
  have HP := Lib.hid hp
  have HB0 := Lib.hid hb0
  have HL := Lib.hid h.1
  have HS := Lib.hid hs
  have hnc := h.2.1
  have hcm := h.2.2.1
  unfold maxLen at hcm
  unfold ptV
  clear h hb0 hp hs
  go_enter Tryz.func24, Tryz.ntmps24
  go_wp2_with fail
  rw [← hW, ← hbp]
  clear hW hbp
  go_loopw [5, 6] (fun ov kv wr => ∃ k : Nat, k ≤ n ∧ kv = .int .i64 k ∧ Hid (OwnI wr W.heap.size ov ((allI k).filter (fun x => nearR p (regI G x)))) ∧ Hid (Below W.heap.size W wr)) (fun _ kv _ => n - (intOf kv).toNat)
  case atStart => exact ⟨0, by omega, rfl, Lib.hid (OwnI.nil _ _), Below.refl _ _⟩
  case round =>
    obtain ⟨k, hk, rfl, HOW, HBW⟩ := hrel
    by_cases hlt : k < n
    · have hk5 : (k : Int) < (n : Int) := by omega
      have hk0 : (0 : Int) ≤ (k : Int) := by omega
      have hwk : IntKind.i64.wrap ((k : Int) + 1) = (k : Int) + 1 := IntWalk.i64_in _ (by omega)
      obtain ⟨b, off, x, y, z, rfl, e0, hr⟩ := (HI.out.later HBW.out (Nat.le_refl _)).2.2.2.2 k hlt
      have hbx := rBox_region x y z (G.getD k []) wr hr (HS.out k hlt)
      have hbv : ∃ (lo hi : Pt) (q r : Bool), boundsV (G.getD k []).flatten = .tuple #[boxV lo hi, .bool q] ∧ r = nearR p (G.getD k []) ∧ (q = true → boxIn p lo hi = r) ∧ (q = false → r = false) := by
        unfold boundsV nearR
        cases boundsP (G.getD k []).flatten with
        | none => exact ⟨_, _, _, _, rfl, rfl, (fun h => by cases h), fun _ => rfl⟩
        | some q => exact ⟨_, _, _, _, rfl, rfl, (fun _ => rfl), (fun h => by cases h)⟩
      obtain ⟨lo, hi, q, r, hbv, hrr, hq1, hq2⟩ := hbv
      rw [hbv] at hbx
      have hst : (allI (k + 1)).filter (fun x => nearR p (regI G x)) = (allI k).filter (fun x => nearR p (regI G x)) ++ (if r then [(k : Int)] else []) := by
        rw [allI_succ, List.filter_append, hrr]
        have : regI G (k : Int) = G.getD k [] := by simp [regI]
        simp only [List.filter_cons, List.filter_nil, this]
      have HST := Lib.hid hst
      have HBX := Lib.hid hbx
      have HQ := Lib.hid (And.intro hq1 hq2)
      have HPR := Lib.hid ((HBW.out.block bp (heap_lt' HP.out)).trans HP.out)
      unfold boxV at HBX
      clear hr hbx hbv hrr hq1 hq2 hst
      go_wp2_with fail
      refine HBX.out.mono ?_
      rintro e w2 ⟨rfl, hb2⟩
      have HB2 := Lib.hid hb2
      have hpr2 := (hb2.block bp (heap_lt' HPR.out)).trans HPR.out
      have c1 : w2.cell? ⟨bp, 0, none⟩ = some (.int .i64 p.x) := cell_of_row _ _ _ _ _ _ hpr2
      have c2 : w2.cell? ⟨bp, 1, none⟩ = some (.int .i64 p.y) := cell_of_row _ _ _ _ _ _ hpr2
      clear hb2 e0 hpr2
      have HKL : Hid (((allI k).filter (fun x => nearR p (regI G x))).length + 1 ≤ 1000000000) := Lib.hid (by
        have := List.length_filter_le (fun x => nearR p (regI G x)) (allI k)
        rw [allI_len] at this
        omega)
      cases q with
      | false =>
        have hrf := HQ.out.2 rfl
        subst hrf
        go_wp2_with fail
        go_roundw
        case rel =>
          have hal := (HB2.out.alloc (o := .cells #[.int .i64 lo.x, .int .i64 lo.y, .int .i64 hi.x, .int .i64 hi.y] 66) HB2.out.size)
          exact ⟨k + 1, by omega, by go_num, Lib.hid (by rw [HST.out]; simpa using HOW.out.later hal), HBW.out.trans (hal.mono HBW.out.size)⟩
        case measure => simp [intOf]; omega
      | true =>
        have hrt := HQ.out.1 rfl
        have HAL := Lib.hid (HB2.out.alloc (o := .cells #[.int .i64 lo.x, .int .i64 lo.y, .int .i64 hi.x, .int .i64 hi.y] 66) HB2.out.size)
        have hin := rIn_any p lo hi (w2.alloc (.cells #[.int .i64 lo.x, .int .i64 lo.y, .int .i64 hi.x, .int .i64 hi.y] 66))
        rw [hrt] at hin
        unfold ptV boxV at hin
        have HIN := Lib.hid hin
        obtain ⟨d0, d1, d2, d3⟩ := box_cells (a := lo.x) (b := lo.y) (c := hi.x) (d := hi.y) (alloc_new w2 (.cells (boxRow lo.x lo.y hi.x hi.y) 66))
        unfold boxRow at d0 d1 d2 d3
        have e1 : (w2.alloc (.cells #[.int .i64 lo.x, .int .i64 lo.y, .int .i64 hi.x, .int .i64 hi.y] 66)).cell? ⟨bp, 0, none⟩ = some (.int .i64 p.x) := (((Below.refl w2.heap.size w2).alloc (Nat.le_refl _) _).cell (p := ⟨bp, 0, none⟩) (block_lt_of_cell c1)).trans c1
        have e2 : (w2.alloc (.cells #[.int .i64 lo.x, .int .i64 lo.y, .int .i64 hi.x, .int .i64 hi.y] 66)).cell? ⟨bp, 1, none⟩ = some (.int .i64 p.y) := (((Below.refl w2.heap.size w2).alloc (Nat.le_refl _) _).cell (p := ⟨bp, 1, none⟩) (block_lt_of_cell c2)).trans c2
        clear hrt hin
        go_wp2_with fail
        refine HIN.out.mono ?_
        rintro e w3 ⟨rfl, hg3⟩
        have HBY := Lib.hid (HAL.out.trans (hg3.1.mono HAL.out.size))
        have HOZ := Lib.hid (HOW.out.later HBY.out)
        clear hg3 c1 c2
        cases r with
        | false =>
          go_wp2_with fail
          go_roundw
          case rel => exact ⟨k + 1, by omega, by go_num, Lib.hid (by rw [HST.out]; simpa using HOZ.out), HBW.out.trans (HBY.out.mono HBW.out.size)⟩
          case measure => simp [intOf]; omega
        | true =>
          have HBV := Lib.hid (HBW.out.trans (HBY.out.mono HBW.out.size))
          go_wp2_with (at_builtin; refine wpList_append_intsF rfl _ _ rfl W.heap.size u5 ((allI k).filter (fun x => nearR p (regI G x))) rfl (HOZ.out.later ((Below.refl _ _).alloc (Nat.le_refl _) _)) _ _ _ [(k : Int)] rfl (one_ints w3 (k : Int)) HKL.out (by have := HBV.out.size; simp; omega) ?_
                       intro v' w9 hov hgr hfr
                       have hown9 := hov
                       obtain ⟨av, cv, hv', _⟩ := hov.ints
                       have HN9 := Lib.hid (And.intro hown9 hgr)
                       clear hown9 hgr hfr hov)
          have hv2 : v' = .slice av (((allI k).filter (fun x => nearR p (regI G x))).length + 1) cv := by rw [hv', List.length_append]; rfl
          rw [← hv2]
          obtain ⟨o9, g9⟩ := HN9.out
          have hal : Below w3.heap.size w3 (w3.alloc (Obj.cells #[Value.int IntKind.i64 (k : Int)] 3)) := (Below.refl _ _).alloc (Nat.le_refl _) _
          refine ⟨⟨k + 1, by omega, by go_num, Lib.hid (by rw [HST.out]; exact o9), Lib.hid ((HBV.out.trans (hal.mono HBV.out.size)).grown g9 (Nat.le_trans HBV.out.size hal.size) (fun q hq => (HOW.out.lt q hq).1))⟩, ?_⟩
          simp [intOf]; omega
    · have hkn : n = k := by omega
      subst hkn
      have hk5 : ¬ (n : Int) < (n : Int) := by omega
      go_wp2_with fail
      go_ret
      have h2 := HOW.out
      unfold askG
      rw [HL.out]
      exact ⟨_, rfl, h2.base HB0.out.size, HB0.out.trans (HBW.out.mono HB0.out.size)⟩
end Go.Proofs.YtjiiikeniocmfaaGreat
