/- ring.Check -/
import Derived.Test.YtjiiikeniocmfaaGreatMQApart
import Derived.Test.YtjiiikeniocmfaaGreatMQCont
set_option linter.unusedSimpArgs false
set_option linter.unusedVariables false
namespace Go.Proofs.YtjiiikeniocmfaaGreat
open Go.RowKit Go.Geo
attribute [local go_sem] Oper.semAt_some
def lookK (P : List Pt) (k : Nat) : Option (Int × Int) := match k with
  | 0 => sizeL P.length
  | 1 => validL P
  | 2 => unlikeL P
  | 3 => aheadL P
  | _ => apartL P
theorem ringCheck_eq (P : List Pt) : ringCheckP P = ((lookK P 0).or ((lookK P 1).or ((lookK P 2).or ((lookK P 3).or (lookK P 4))))).getD (0, 0) := by
  unfold ringCheckP lookK sizeL validL unlikeL aheadL apartL
  try dsimp only
  by_cases h1 : 200 < P.length
  · rw [if_pos h1, if_pos h1]; rfl
  · rw [if_neg h1, if_neg h1]
    by_cases h2 : P.length < 3
    · rw [if_pos h2, if_pos h2]; rfl
    · rw [if_neg h2, if_neg h2]
      cases firstP P.length (fun i => !validP (P.getD i p0)) with
      | some i => rfl
      | none =>
        cases firstP P.length (twiceP P) with
        | some i => rfl
        | none =>
          cases firstP P.length (backP P) with
          | some i => rfl
          | none =>
            cases firstP P.length (meetsP P) with
            | some i => rfl
            | none => rfl
theorem ringCheck_none {P : List Pt} (h : ∀ j, j < 5 → lookK P j = none) : ringCheckP P = (0, 0) := by
  rw [ringCheck_eq, h 0 (by omega), h 1 (by omega), h 2 (by omega), h 3 (by omega), h 4 (by omega)]; rfl
theorem ringCheck_some {P : List Pt} {k : Nat} {x : Int × Int} (hk : k < 5) (h : ∀ j, j < k → lookK P j = none) (hx : lookK P k = some x) : ringCheckP P = x := by
  rw [ringCheck_eq]
  match k, hk with
  | 0, _ => rw [hx]; rfl
  | 1, _ => rw [h 0 (by omega), hx]; rfl
  | 2, _ => rw [h 0 (by omega), h 1 (by omega), hx]; rfl
  | 3, _ => rw [h 0 (by omega), h 1 (by omega), h 2 (by omega), hx]; rfl
  | 4, _ => rw [h 0 (by omega), h 1 (by omega), h 2 (by omega), h 3 (by omega), hx]; rfl
theorem size_none {P : List Pt} (h : lookK P 0 = none) : 3 ≤ P.length ∧ P.length ≤ 200 := by
  have h : sizeL P.length = none := h
  unfold sizeL at h
  by_cases h1 : 200 < P.length
  · rw [if_pos h1] at h; cases h
  · rw [if_neg h1] at h
    by_cases h2 : P.length < 3
    · rw [if_pos h2] at h; cases h
    · omega
theorem valid_none {P : List Pt} (h : lookK P 1 = none) : ∀ v ∈ P, validP v = true := by
  have h : validL P = none := h
  unfold validL at h
  intro v hv
  obtain ⟨i, hi, rfl⟩ := List.mem_iff_getElem.1 hv
  cases hf : firstP P.length (fun i => !validP (P.getD i p0)) with
  | some k => rw [hf] at h; cases h
  | none =>
    have := firstP_eq_none hf i hi
    rw [List.getD_eq_getElem?_getD, List.getElem?_eq_getElem hi] at this
    simpa using this
/-- the end: the answer stands in the fault's cell. -/
theorem fault_end {fn : Func} {p : Tmp} {x : Int × Int} {w w2 w3 : World} {a : Act} {u v : Int} (h : fn.results = #[.cell p 35]) (hp : a.tmps.getD p undef = .pointer (some ⟨w.heap.size, 0, none⟩)) (hd : a.defers = [])
    (hr : Hid (Below w.heap.size w w2 ∧ w2.heap[w.heap.size]? = some (.cells #[.int .i64 0, .int .i64 0] 35 (0, 0)))) (hw : w3 = (w2.setCell ⟨w.heap.size, 0, none⟩ (.int .i64 u)).setCell ⟨w.heap.size, 1, none⟩ (.int .i64 v)) (ho : x = (u, v)) :
    bodyPost Tryz.prog fn (fun e w' => e = .returned (faultV x) ∧ Below w.heap.size w w') .ret a w3 := by
  subst hw ho
  exact bodyPost_ret (results_cell_row h a.tmps _ _ _ _ _ _ hp (put_two hr.out.2 _ _) Tryz.underlying35 rfl (by kernel_rfl)) hd ⟨rfl, (hr.out.1.setCell (p := ⟨w.heap.size, 0, none⟩) (Nat.le_refl _) _).setCell (p := ⟨w.heap.size, 1, none⟩) (Nat.le_refl _) _⟩
theorem look_any (k : Nat) (hk : k < 5) (ao : Option Addr) (n cap : Nat) (P : List Pt) (w : World) (h : IsPts w ao n cap P) (hq : ∀ j, j < k → lookK P j = none) :
    Calls Tryz.prog (match k with | 0 => 63 | 1 => 64 | 2 => 65 | 3 => 66 | _ => 67) #[.slice ao n cap] w fun e w' => e = .returned (lookV (lookK P k)) ∧ Below w.heap.size w w' := by
  have hl := h.1
  match k, hk with
  | 0, _ =>
    have := (size_any ao n cap w (Nat.le_trans h.2.1 h.2.2.1)).mono (R' := fun e w' => e = .returned (lookV (lookK P 0)) ∧ Below w.heap.size w w') (fun e w' h => ⟨by rw [h.1, ← hl]; rfl, h.2.1⟩)
    exact this
  | 1, _ => exact (valid1_any ao n cap P w h).mono fun e w' h => ⟨h.1, h.2.1⟩
  | 2, _ => exact unlike_any ao n cap P w h (valid_none (hq 1 (by omega)))
  | 3, _ =>
    have := size_none (hq 0 (by omega))
    exact (ahead_any ao n cap P w h (by omega) (by omega)).mono fun e w' h => ⟨h.1, h.2.1⟩
  | 4, _ =>
    have := size_none (hq 0 (by omega))
    exact apart_any ao n cap P w h (by omega)

set_option maxRecDepth 100000 in
set_option maxHeartbeats 2000000 in
theorem Check_ring (ao : Option Addr) (n cap : Nat) (P : List Pt) (w : World) (h : IsPts w ao n cap P) :
    Calls Tryz.prog 42 #[.slice ao n cap] w fun e w' => e = .returned (faultV (ringCheckP P)) ∧ Below w.heap.size w w' := by
  have HI := Lib.hid h
  have HLK := Lib.hid (fun (k : Nat) (hk : k < 5) w h hq => look_any k hk ao n cap P w h hq)
  have hA : Below w.heap.size w (w.alloc (.cells #[.int .i64 0, .int .i64 0] 35)) := (Below.refl _ _).alloc (Nat.le_refl _) _

  have en0 := enters_of Tryz.func63 (by kernel_rfl) rfl
  have en1 := enters_of Tryz.func64 (by kernel_rfl) rfl
  have en2 := enters_of Tryz.func65 (by kernel_rfl) rfl
  have en3 := enters_of Tryz.func66 (by kernel_rfl) rfl
  have en4 := enters_of Tryz.func67 (by kernel_rfl) rfl
  clear h hA
  go_enter Tryz.func42, Tryz.ntmps42
  go_wp2
  obtain ⟨W0, hW0⟩ : ∃ W, W = (w.alloc (.cells #[.int .i64 0, .int .i64 0] 35)).alloc (.cells #[.func (.func 63) #[] #[], .func (.func 64) #[] #[], .func (.func 65) #[] #[], .func (.func 66) #[] #[], .func (.func 67) #[] #[]] 112) := ⟨_, rfl⟩
  have hrow := alloc_new2 w (.cells #[.int .i64 0, .int .i64 0] 35) (.cells #[.func (.func 63) #[] #[], .func (.func 64) #[] #[], .func (.func 65) #[] #[], .func (.func 66) #[] #[], .func (.func 67) #[] #[]] 112)
  rw [← hW0] at hrow ⊢
  have hb0 : Below (w.heap.size + 1) (w.alloc (.cells #[.int .i64 0, .int .i64 0] 35)) W0 := by rw [hW0]; exact (Below.refl _ _).alloc (by simp) _
  have hs0 : W0.heap.size = w.heap.size + 2 := by rw [hW0]; simp
  have HR := Lib.hid (And.intro hrow (And.intro hb0 hs0))
  clear hrow hb0 hs0 hW0
  go_loopw [9] (fun i wr => ∃ k : Nat, k ≤ 5 ∧ i = .int .i64 k ∧ Hid (∀ j, j < k → lookK P j = none) ∧ Hid (Below W0.heap.size W0 wr)) (fun i _ => 5 - (intOf i).toNat)
  case atStart => exact ⟨0, by omega, rfl, (fun j hj => absurd hj (by omega)), Below.refl _ _⟩
  case round =>
    obtain ⟨k, hk, rfl, hq, hb⟩ := hrel
    have hrow := (hb.out.block (w.heap.size + 1) (by rw [HR.out.2.2]; omega)).trans HR.out.1
    have hbf : Below (w.heap.size + 1) (w.alloc (.cells #[.int .i64 0, .int .i64 0] 35)) wr := HR.out.2.1.trans (hb.out.mono (by rw [HR.out.2.2]; omega))
    have hwr : w.heap.size + 1 ≤ wr.heap.size := by have := hb.out.size; rw [HR.out.2.2] at this; omega
    have HBF := Lib.hid (And.intro hbf hwr)
    have hpt : IsPts wr ao n cap P := HI.out.later (((Below.refl _ _).alloc (Nat.le_refl _) _).trans (hbf.mono (Nat.le_succ _))) (Nat.le_refl _)
    have HPT := Lib.hid hpt
    clear hpt hbf hwr
    match k, hk with
    | 0, _ =>
      have cf : wr.cell? ⟨w.heap.size + 1, 0, none⟩ = _ := cell_of_row _ _ _ _ _ _ hrow
      have HC := Lib.hid (HLK.out 0 (by omega) wr HPT.out hq.out)
      try dsimp only at HC
      obtain ⟨o, ho⟩ : ∃ o, o = lookK P 0 := ⟨_, rfl⟩
      rw [← ho] at HC
      have HO := Lib.hid ho
      clear hrow ho
      cases o with
      | none =>
        go_wp2_with fail
        refine HC.out.mono ?_
        rintro e w2 ⟨rfl, hb2⟩
        unfold lookV faultV
        have HB2 := Lib.hid hb2
        clear hb2 cf
        go_wp2_with fail
        go_roundw
        case rel =>
          refine ⟨1, by omega, by rfl, Lib.hid fun j hj => ?_, Lib.hid (hb.out.trans ((HB2.out.alloc HB2.out.size _).mono hb.out.size))⟩
          by_cases hik : j < 0
          · exact hq.out j hik
          · obtain rfl : j = 0 := by omega
            exact HO.out.symm
        case measure => simp [intOf]
      | some x =>
        obtain ⟨x, y⟩ := x
        go_wp2_with fail
        refine HC.out.mono ?_
        rintro e w2 ⟨rfl, hb2⟩
        unfold lookV faultV
        obtain ⟨k0, k1, f0, f1, HG⟩ := fault_cellsB (w2 := w2.alloc (.cells #[.int .i64 x, .int .i64 y] 35)) (HBF.out.1.trans ((hb2.alloc hb2.size _).mono HBF.out.2))
        clear hb2 cf
        go_wp2_with fail
        exact fault_end rfl rfl rfl HG rfl (ringCheck_some (by omega) hq.out HO.out.symm)
    | 1, _ =>
      have cf : wr.cell? ⟨w.heap.size + 1, 1, none⟩ = _ := cell_of_row _ _ _ _ _ _ hrow
      have HC := Lib.hid (HLK.out 1 (by omega) wr HPT.out hq.out)
      try dsimp only at HC
      obtain ⟨o, ho⟩ : ∃ o, o = lookK P 1 := ⟨_, rfl⟩
      rw [← ho] at HC
      have HO := Lib.hid ho
      clear hrow ho
      cases o with
      | none =>
        go_wp2_with fail
        refine HC.out.mono ?_
        rintro e w2 ⟨rfl, hb2⟩
        unfold lookV faultV
        have HB2 := Lib.hid hb2
        clear hb2 cf
        go_wp2_with fail
        go_roundw
        case rel =>
          refine ⟨2, by omega, by rfl, Lib.hid fun j hj => ?_, Lib.hid (hb.out.trans ((HB2.out.alloc HB2.out.size _).mono hb.out.size))⟩
          by_cases hik : j < 1
          · exact hq.out j hik
          · obtain rfl : j = 1 := by omega
            exact HO.out.symm
        case measure => simp [intOf]
      | some x =>
        obtain ⟨x, y⟩ := x
        go_wp2_with fail
        refine HC.out.mono ?_
        rintro e w2 ⟨rfl, hb2⟩
        unfold lookV faultV
        obtain ⟨k0, k1, f0, f1, HG⟩ := fault_cellsB (w2 := w2.alloc (.cells #[.int .i64 x, .int .i64 y] 35)) (HBF.out.1.trans ((hb2.alloc hb2.size _).mono HBF.out.2))
        clear hb2 cf
        go_wp2_with fail
        exact fault_end rfl rfl rfl HG rfl (ringCheck_some (by omega) hq.out HO.out.symm)
    | 2, _ =>
      have cf : wr.cell? ⟨w.heap.size + 1, 2, none⟩ = _ := cell_of_row _ _ _ _ _ _ hrow
      have HC := Lib.hid (HLK.out 2 (by omega) wr HPT.out hq.out)
      try dsimp only at HC
      obtain ⟨o, ho⟩ : ∃ o, o = lookK P 2 := ⟨_, rfl⟩
      rw [← ho] at HC
      have HO := Lib.hid ho
      clear hrow ho
      cases o with
      | none =>
        go_wp2_with fail
        refine HC.out.mono ?_
        rintro e w2 ⟨rfl, hb2⟩
        unfold lookV faultV
        have HB2 := Lib.hid hb2
        clear hb2 cf
        go_wp2_with fail
        go_roundw
        case rel =>
          refine ⟨3, by omega, by rfl, Lib.hid fun j hj => ?_, Lib.hid (hb.out.trans ((HB2.out.alloc HB2.out.size _).mono hb.out.size))⟩
          by_cases hik : j < 2
          · exact hq.out j hik
          · obtain rfl : j = 2 := by omega
            exact HO.out.symm
        case measure => simp [intOf]
      | some x =>
        obtain ⟨x, y⟩ := x
        go_wp2_with fail
        refine HC.out.mono ?_
        rintro e w2 ⟨rfl, hb2⟩
        unfold lookV faultV
        obtain ⟨k0, k1, f0, f1, HG⟩ := fault_cellsB (w2 := w2.alloc (.cells #[.int .i64 x, .int .i64 y] 35)) (HBF.out.1.trans ((hb2.alloc hb2.size _).mono HBF.out.2))
        clear hb2 cf
        go_wp2_with fail
        exact fault_end rfl rfl rfl HG rfl (ringCheck_some (by omega) hq.out HO.out.symm)
    | 3, _ =>
      have cf : wr.cell? ⟨w.heap.size + 1, 3, none⟩ = _ := cell_of_row _ _ _ _ _ _ hrow
      have HC := Lib.hid (HLK.out 3 (by omega) wr HPT.out hq.out)
      try dsimp only at HC
      obtain ⟨o, ho⟩ : ∃ o, o = lookK P 3 := ⟨_, rfl⟩
      rw [← ho] at HC
      have HO := Lib.hid ho
      clear hrow ho
      cases o with
      | none =>
        go_wp2_with fail
        refine HC.out.mono ?_
        rintro e w2 ⟨rfl, hb2⟩
        unfold lookV faultV
        have HB2 := Lib.hid hb2
        clear hb2 cf
        go_wp2_with fail
        go_roundw
        case rel =>
          refine ⟨4, by omega, by rfl, Lib.hid fun j hj => ?_, Lib.hid (hb.out.trans ((HB2.out.alloc HB2.out.size _).mono hb.out.size))⟩
          by_cases hik : j < 3
          · exact hq.out j hik
          · obtain rfl : j = 3 := by omega
            exact HO.out.symm
        case measure => simp [intOf]
      | some x =>
        obtain ⟨x, y⟩ := x
        go_wp2_with fail
        refine HC.out.mono ?_
        rintro e w2 ⟨rfl, hb2⟩
        unfold lookV faultV
        obtain ⟨k0, k1, f0, f1, HG⟩ := fault_cellsB (w2 := w2.alloc (.cells #[.int .i64 x, .int .i64 y] 35)) (HBF.out.1.trans ((hb2.alloc hb2.size _).mono HBF.out.2))
        clear hb2 cf
        go_wp2_with fail
        exact fault_end rfl rfl rfl HG rfl (ringCheck_some (by omega) hq.out HO.out.symm)
    | 4, _ =>
      have cf : wr.cell? ⟨w.heap.size + 1, 4, none⟩ = _ := cell_of_row _ _ _ _ _ _ hrow
      have HC := Lib.hid (HLK.out 4 (by omega) wr HPT.out hq.out)
      try dsimp only at HC
      obtain ⟨o, ho⟩ : ∃ o, o = lookK P 4 := ⟨_, rfl⟩
      rw [← ho] at HC
      have HO := Lib.hid ho
      clear hrow ho
      cases o with
      | none =>
        go_wp2_with fail
        refine HC.out.mono ?_
        rintro e w2 ⟨rfl, hb2⟩
        unfold lookV faultV
        have HB2 := Lib.hid hb2
        clear hb2 cf
        go_wp2_with fail
        go_roundw
        case rel =>
          refine ⟨5, by omega, by rfl, Lib.hid fun j hj => ?_, Lib.hid (hb.out.trans ((HB2.out.alloc HB2.out.size _).mono hb.out.size))⟩
          by_cases hik : j < 4
          · exact hq.out j hik
          · obtain rfl : j = 4 := by omega
            exact HO.out.symm
        case measure => simp [intOf]
      | some x =>
        obtain ⟨x, y⟩ := x
        go_wp2_with fail
        refine HC.out.mono ?_
        rintro e w2 ⟨rfl, hb2⟩
        unfold lookV faultV
        obtain ⟨k0, k1, f0, f1, HG⟩ := fault_cellsB (w2 := w2.alloc (.cells #[.int .i64 x, .int .i64 y] 35)) (HBF.out.1.trans ((hb2.alloc hb2.size _).mono HBF.out.2))
        clear hb2 cf
        go_wp2_with fail
        exact fault_end rfl rfl rfl HG rfl (ringCheck_some (by omega) hq.out HO.out.symm)
    | 5, _ =>
      obtain ⟨k0, k1, f0, f1, HG⟩ := fault_cellsB HBF.out.1
      clear hrow
      go_wp2_with fail
      exact fault_end rfl rfl rfl HG rfl (ringCheck_none hq.out)
end Go.Proofs.YtjiiikeniocmfaaGreat

/- point.Bounds: a round of its inner loop, at either coordinate -/
set_option linter.unusedSimpArgs false
set_option linter.unusedVariables false
namespace Go.Proofs.YtjiiikeniocmfaaGreat
open Go.RowKit Go.Geo
theorem enters_of0 : ∀ args w, (callFunc 72 args).run Tryz.prog w = .ok (.enter 72 args) w := enters_of Tryz.func72 (by kernel_rfl) rfl
set_option maxRecDepth 100000 in
set_option maxHeartbeats 4000000 in
theorem Bounds_any (ao : Option Addr) (n cap : Nat) (P : List Pt) (w : World) (h : IsPts w ao n cap P) :
    Calls Tryz.prog 46 #[.slice ao n cap] w fun e w' => e = .returned (boundsV P) ∧ Grew w w' := by
  have HI := Lib.hid h
  have hcm := h.2.2.1
  have hnc := h.2.1
  unfold maxLen at hcm
  have HV := Lib.hid (fun W (hW : IsPts W ao n cap P) => valid_any ao n cap P W hW)
  have henter := enters_of0
  have hix0 : ∀ w, (Instr.index 121 (.agg #[.func (.func 72) #[.int .i64 0] #[], .func (.func 72) #[.int .i64 1] #[]]) (.int .i64 0)).run Tryz.prog w = .ok (.func (.func 72) #[.int .i64 0] #[]) w := fun w => (idx_two Tryz.underlying121 Tryz.isAgg119 Tryz.sizeOf119 _ _ w).1
  have hix1 : ∀ w, (Instr.index 121 (.agg #[.func (.func 72) #[.int .i64 0] #[], .func (.func 72) #[.int .i64 1] #[]]) (.int .i64 1)).run Tryz.prog w = .ok (.func (.func 72) #[.int .i64 1] #[]) w := fun w => (idx_two Tryz.underlying121 Tryz.isAgg119 Tryz.sizeOf119 _ _ w).2
  obtain ⟨v, hv⟩ : ∃ v, v = P.all validP := ⟨_, rfl⟩
  rw [← hv] at HV
  have HVE := Lib.hid hv
  have HL := Lib.hid h.1
  clear h hv
  by_cases hn0 : n = 0
  · subst hn0
    have hb : boundsV P = .tuple #[boxV p0 p0, .bool false] := by unfold boundsV; rw [bounds_none (.inr HL.out)]
    rw [hb]
    go_enter Tryz.func46, Tryz.ntmps46
    go_wp2_with fail
    refine bodyPost_ret (results_box rfl rfl (alloc_new _ _)) rfl ⟨rfl, (Grew.refl _).alloc _⟩
  · have hn1 : ((n : Int) == 0) = false := by simp; omega
    cases v with
    | false =>
      have hb : boundsV P = .tuple #[boxV p0 p0, .bool false] := by unfold boundsV; rw [bounds_none (.inl HVE.out.symm)]
      rw [hb]
      go_enter Tryz.func46, Tryz.ntmps46
      go_wp2_with fail
      refine (HV.out _ (HI.out.grew ((Grew.refl _).alloc _))).mono ?_
      rintro e w1 ⟨rfl, hg1⟩
      have HG1 := Lib.hid hg1
      have hres : w1.heap[w.heap.size]? = some (.cells (boxRow 0 0 0 0) 66 (0, 0)) := hg1.heap_new
      obtain ⟨r0, r1, r2, r3⟩ := box_cells hres
      obtain ⟨f0, f1, f2, f3⟩ := box_frozen hres
      have HR := Lib.hid hres
      clear hg1 hres
      go_wp2_with fail
      refine bodyPost_ret (results_box rfl rfl (put_box HR.out 0 0 0 0)) rfl ⟨rfl, ?_⟩
      have hsz : w.heap.size ≤ w.heap.size := Nat.le_refl _
      exact grew_setCell (grew_setCell (grew_setCell (grew_setCell (((Grew.refl _).alloc _).trans HG1.out) hsz _) hsz _) hsz _) hsz _
    | true =>
      have hi0 : (0 : Int) < (n : Int) := by omega
      go_enter Tryz.func46, Tryz.ntmps46
      go_wp2_with fail
      refine (HV.out _ (HI.out.grew ((Grew.refl _).alloc _))).mono ?_
      rintro e w1 ⟨rfl, hg1⟩
      have hg : Grew w w1 := ((Grew.refl _).alloc _).trans hg1
      obtain ⟨b, off, rfl, e0, e1⟩ := (HI.out.grew hg).at (k := 0) (by omega)
      simp only [Nat.zero_mul, Nat.add_zero] at e0 e1
      obtain ⟨z, hz⟩ : ∃ z, z = P.getD 0 p0 := ⟨_, rfl⟩
      rw [← hz] at e0 e1
      have HZ := Lib.hid hz
      have d0 : (w1.alloc (.cells #[.int .i64 0, .int .i64 0, .int .i64 0, .int .i64 0] 66)).cell? ⟨b, off, none⟩ = some (.int .i64 z.x) := ((Grew.refl _).alloc _).cell e0
      have d1 : (w1.alloc (.cells #[.int .i64 0, .int .i64 0, .int .i64 0, .int .i64 0] 66)).cell? ⟨b, off + 1, none⟩ = some (.int .i64 z.y) := ((Grew.refl _).alloc _).cell e1
      have HG1 := Lib.hid hg1
      have HG := Lib.hid hg
      clear hz hg1 hg
      go_wp2_with fail
      go_region
      go_wp2_with fail
      clear d0 d1 e0 e1
      have hbox0 : (w1.alloc (.cells (boxRow z.x z.y z.x z.y) 66)).drew.heap[w1.heap.size]? = some (.cells (boxRow (minK Pt.x z.x P 0) z.y (maxK Pt.x z.x P 0) z.y) 66 (0, 0)) := alloc_new _ _
      have hres0 : (w1.alloc (.cells (boxRow z.x z.y z.x z.y) 66)).drew.heap[w.heap.size]? = some (.cells (boxRow 0 0 0 0) 66 (0, 0)) := (Below.heap_alloc _ _ _ (by have := HG1.out.size; simp at this; omega)).trans HG1.out.heap_new
      have hgr0 : Grew w (w1.alloc (.cells (boxRow z.x z.y z.x z.y) 66)).drew := (HG.out.alloc _).drew
      refine wp_loop_rounds 3 ?_
      rw [rounds_succ]
      go_wp2_with fail
      go_loopw [33] (fun i wr => ∃ j : Nat, j ≤ n ∧ i = .int .i64 j ∧ Hid (wr.heap[w1.heap.size]? = some (.cells (boxRow (minK Pt.x z.x P j) z.y (maxK Pt.x z.x P j) z.y) 66 (0, 0))) ∧ Hid (wr.heap[w.heap.size]? = some (.cells (boxRow 0 0 0 0) 66 (0, 0))) ∧ Hid (Grew w wr)) (fun i _ => n - (intOf i).toNat)
      case atStart =>
        exact ⟨0, by omega, rfl, hbox0, hres0, hgr0⟩
      case round =>
        obtain ⟨j, hj, rfl, hbx, hrs, hgw⟩ := hrel
        by_cases hlt : j < n
        · have hi0 : (0 : Int) ≤ (j : Int) := by omega
          have hi5 : (j : Int) < (n : Int) := by omega
          obtain ⟨b2, off2, hbo, e0, e1⟩ := (HI.out.grew hgw.out).at hlt
          cases hbo
          obtain ⟨c, hc⟩ : ∃ c, c = P.getD j p0 := ⟨_, rfl⟩
          rw [← hc] at e0 e1
          obtain ⟨lo, hlo⟩ : ∃ x, x = minK Pt.x z.x P j := ⟨_, rfl⟩
          obtain ⟨hi, hhi⟩ : ∃ x, x = maxK Pt.x z.x P j := ⟨_, rfl⟩
          have nlo : minK Pt.x z.x P (j + 1) = min lo c.x := by rw [hlo, hc]; exact minK_succ (by rw [HL.out]; exact hlt)
          have nhi : maxK Pt.x z.x P (j + 1) = max hi c.x := by rw [hhi, hc]; exact maxK_succ (by rw [HL.out]; exact hlt)
          rw [← hlo, ← hhi] at hbx
          have HN := Lib.hid (And.intro nlo nhi)
          have hsz : w1.heap.size < wr.heap.size := (Array.getElem?_eq_some_iff.1 hbx.out).1
          have HSZ := Lib.hid hsz
          have HLT : Hid (w.heap.size < w1.heap.size) := Lib.hid (by have := HG1.out.size; simp at this; omega)
          clear hc hlo hhi nlo nhi
          obtain ⟨cx, cy⟩ := c
          have hW : (wr.alloc (.cells #[.int .i64 cx, .int .i64 cy] 24)).heap[w1.heap.size]? = some (.cells (boxRow lo z.y hi z.y) 66 (0, 0)) := (Below.heap_alloc _ _ _ hsz).trans hbx.out
          have HW := Lib.hid hW
          obtain ⟨k0, k1, k2, k3⟩ := box_cells hW
          obtain ⟨f0, f1, f2, f3⟩ := box_frozen hW
          have q0 : (wr.alloc (.cells #[.int .i64 cx, .int .i64 cy] 24)).cell? ⟨wr.heap.size, 0, none⟩ = some (.int .i64 cx) := cell_of_row _ _ _ _ _ _ (alloc_new _ _)
          have q1 : (wr.alloc (.cells #[.int .i64 cx, .int .i64 cy] 24)).cell? ⟨wr.heap.size, 1, none⟩ = some (.int .i64 cy) := cell_of_row _ _ _ _ _ _ (alloc_new _ _)
          clear hsz hW
          dsimp only at HN e0 e1
          have HB := Lib.hid (And.intro (((hgw.out).alloc (.cells #[.int .i64 cx, .int .i64 cy] 24))) ((Below.heap_alloc wr (.cells #[.int .i64 cx, .int .i64 cy] 24) w.heap.size (Array.getElem?_eq_some_iff.1 hrs.out).1).trans hrs.out))
          go_wp2_with fail
          generalize wr.alloc _ = W at *
          go_still_tail 14, (by kernel_rfl)
          still_call (of0_still _ _ _)
          repeat still_step
          still_call (of0_still _ _ _)
          repeat still_step
          still_call (of0_still _ _ _)
          repeat still_step
          refine wpStill_nil ?_
          change wpList _ _ _ _ _ W.drew
          generalize hm1 : (if cx < lo then cx else lo) = m1
          have e5 : m1 = min lo cx := by rw [← hm1]; split <;> omega
          have HE5 := Lib.hid e5
          clear hm1 e5
          go_wp2_with fail
          have hW2 : (W.setCell ⟨w1.heap.size, 0, none⟩ (.int .i64 m1)).drew.heap[w1.heap.size]? = _ := put0 HW.out m1
          have q2 : (W.setCell ⟨w1.heap.size, 0, none⟩ (.int .i64 m1)).drew.cell? ⟨wr.heap.size, 0, none⟩ = some (.int .i64 cx) := (cell_other (by have := HSZ.out; omega)).trans q0
          have q3 : (W.setCell ⟨w1.heap.size, 0, none⟩ (.int .i64 m1)).drew.cell? ⟨wr.heap.size, 1, none⟩ = some (.int .i64 cy) := (cell_other (by have := HSZ.out; omega)).trans q1
          have hB2 : Grew w (W.setCell ⟨w1.heap.size, 0, none⟩ (.int .i64 m1)).drew ∧ (W.setCell ⟨w1.heap.size, 0, none⟩ (.int .i64 m1)).drew.heap[w.heap.size]? = some (.cells (boxRow 0 0 0 0) 66 (0, 0)) := ⟨(grew_setCell HB.out.1 (Nat.le_of_lt HLT.out) (.int .i64 m1) (g := w1.heap.size) (o := 0)).drew, (heap_other (g := w1.heap.size) (off := 0) (v := .int .i64 m1) (by have := HLT.out; omega)).trans HB.out.2⟩
          have HB2 := Lib.hid hB2
          have HW2 := Lib.hid hW2
          clear k0 k1 k2 k3 f0 f1 f2 f3 HW hW2 hB2 q0 q1
          obtain ⟨k0, k1, k2, k3⟩ := box_cells HW2.out
          obtain ⟨f0, f1, f2, f3⟩ := box_frozen HW2.out
          generalize (W.setCell _ _).drew = W5 at *
          go_still_tail 14, (by kernel_rfl)
          still_call (of0_still _ _ _)
          repeat still_step
          still_call (of0_still _ _ _)
          repeat still_step
          still_call (of0_still _ _ _)
          repeat still_step
          refine wpStill_nil ?_
          change wpList _ _ _ _ _ W5.drew
          generalize hm2 : (if hi < cx then cx else hi) = m2
          have e6 : m2 = max hi cx := by rw [← hm2]; split <;> omega
          have HE6 := Lib.hid e6
          clear hm2 e6
          go_wp2_with fail
          have hW2 : (W5.setCell ⟨w1.heap.size, 2, none⟩ (.int .i64 m2)).drew.heap[w1.heap.size]? = _ := put2 HW2.out m2
          have q4 : (W5.setCell ⟨w1.heap.size, 2, none⟩ (.int .i64 m2)).drew.cell? ⟨wr.heap.size, 0, none⟩ = some (.int .i64 cx) := (cell_other (by have := HSZ.out; omega)).trans q2
          have q5 : (W5.setCell ⟨w1.heap.size, 2, none⟩ (.int .i64 m2)).drew.cell? ⟨wr.heap.size, 1, none⟩ = some (.int .i64 cy) := (cell_other (by have := HSZ.out; omega)).trans q3
          have hB2 : Grew w (W5.setCell ⟨w1.heap.size, 2, none⟩ (.int .i64 m2)).drew ∧ (W5.setCell ⟨w1.heap.size, 2, none⟩ (.int .i64 m2)).drew.heap[w.heap.size]? = some (.cells (boxRow 0 0 0 0) 66 (0, 0)) := ⟨(grew_setCell HB2.out.1 (Nat.le_of_lt HLT.out) (.int .i64 m2) (g := w1.heap.size) (o := 2)).drew, (heap_other (g := w1.heap.size) (off := 2) (v := .int .i64 m2) (by have := HLT.out; omega)).trans HB2.out.2⟩
          have HB3 := Lib.hid hB2
          have HW3 := Lib.hid hW2
          clear k0 k1 k2 k3 f0 f1 f2 f3 HW2 hW2 hB2 q2 q3
          generalize (W5.setCell _ _).drew = W6 at *
          go_roundw
          case rel => exact ⟨j + 1, by omega, by go_num, by rw [HN.out.1, HN.out.2, ← HE5.out, ← HE6.out]; exact HW3.out, HB3.out.2, HB3.out.1⟩
          case measure => simp [intOf]; omega
        · obtain rfl : n = j := by omega
          obtain ⟨k0, k1, k2, k3⟩ := box_cells hbx.out
          obtain ⟨f0, f1, f2, f3⟩ := box_frozen hbx.out
          have hw1 : wrap64 (maxK Pt.x z.x P n + 1) = maxK Pt.x z.x P n + 1 := by have := maxK_x HVE.out HL.out HZ.out n; unfold wrap64; omega
          have hbx2 : (wr.setCell ⟨w1.heap.size, 2, none⟩ (.int .i64 (maxK Pt.x z.x P n + 1))).heap[w1.heap.size]? = some (.cells (boxRow (minK Pt.x z.x P n) z.y (maxK Pt.x z.x P n + 1) z.y) 66 (0, 0)) := put2 hbx.out _
          have HLT : Hid (w.heap.size < w1.heap.size) := Lib.hid (by have := HG1.out.size; simp at this; omega)
          have hB2 : Grew w (wr.setCell ⟨w1.heap.size, 2, none⟩ (.int .i64 (maxK Pt.x z.x P n + 1))) ∧ (wr.setCell ⟨w1.heap.size, 2, none⟩ (.int .i64 (maxK Pt.x z.x P n + 1))).heap[w.heap.size]? = some (.cells (boxRow 0 0 0 0) 66 (0, 0)) := ⟨grew_setCell hgw.out (Nat.le_of_lt HLT.out) _, (heap_other (by have := HLT.out; omega)).trans hrs.out⟩
          have HBX := Lib.hid hbx2
          have HB2 := Lib.hid hB2
          clear hbx2 hB2
          go_wp2_with (first | (go_at_fn 72; refine (of0_any _ _ _).mono ?_; rintro e w' ⟨rfl, rfl⟩))
          rw [hw1]
          clear k0 k1 k2 k3 f0 f1 f2 f3
          generalize wr.setCell _ _ = W8 at *
          rw [rounds_succ]
          go_wp2_with fail
          have hgr9 := HB2.out
          have HBZ := Lib.hid HBX.out
          clear HB2 HBX
          go_loopw [33] (fun i wr => ∃ j : Nat, j ≤ n ∧ i = .int .i64 j ∧ Hid (wr.heap[w1.heap.size]? = some (.cells (boxRow (minK Pt.x z.x P n) (minK Pt.y z.y P j) (maxK Pt.x z.x P n + 1) (maxK Pt.y z.y P j)) 66 (0, 0))) ∧ Hid (wr.heap[w.heap.size]? = some (.cells (boxRow 0 0 0 0) 66 (0, 0))) ∧ Hid (Grew w wr)) (fun i _ => n - (intOf i).toNat)
          case atStart =>
            exact ⟨0, by omega, rfl, HBZ.out, hgr9.2, hgr9.1⟩
          case round =>
            obtain ⟨j, hj, rfl, hbx, hrs, hgw⟩ := hrel
            by_cases hlt : j < n
            · have hi0 : (0 : Int) ≤ (j : Int) := by omega
              have hi5 : (j : Int) < (n : Int) := by omega
              obtain ⟨b2, off2, hbo, e0, e1⟩ := (HI.out.grew hgw.out).at hlt
              cases hbo
              obtain ⟨c, hc⟩ : ∃ c, c = P.getD j p0 := ⟨_, rfl⟩
              rw [← hc] at e0 e1
              obtain ⟨lo, hlo⟩ : ∃ x, x = minK Pt.y z.y P j := ⟨_, rfl⟩
              obtain ⟨hi, hhi⟩ : ∃ x, x = maxK Pt.y z.y P j := ⟨_, rfl⟩
              have nlo : minK Pt.y z.y P (j + 1) = min lo c.y := by rw [hlo, hc]; exact minK_succ (by rw [HL.out]; exact hlt)
              have nhi : maxK Pt.y z.y P (j + 1) = max hi c.y := by rw [hhi, hc]; exact maxK_succ (by rw [HL.out]; exact hlt)
              rw [← hlo, ← hhi] at hbx
              have HN := Lib.hid (And.intro nlo nhi)
              have hsz : w1.heap.size < wr.heap.size := (Array.getElem?_eq_some_iff.1 hbx.out).1
              have HSZ := Lib.hid hsz
              have HLT : Hid (w.heap.size < w1.heap.size) := Lib.hid (by have := HG1.out.size; simp at this; omega)
              clear hc hlo hhi nlo nhi
              obtain ⟨cx, cy⟩ := c
              have hW : (wr.alloc (.cells #[.int .i64 cx, .int .i64 cy] 24)).heap[w1.heap.size]? = some (.cells (boxRow (minK Pt.x z.x P n) lo (maxK Pt.x z.x P n + 1) hi) 66 (0, 0)) := (Below.heap_alloc _ _ _ hsz).trans hbx.out
              have HW := Lib.hid hW
              obtain ⟨k0, k1, k2, k3⟩ := box_cells hW
              obtain ⟨f0, f1, f2, f3⟩ := box_frozen hW
              have q0 : (wr.alloc (.cells #[.int .i64 cx, .int .i64 cy] 24)).cell? ⟨wr.heap.size, 0, none⟩ = some (.int .i64 cx) := cell_of_row _ _ _ _ _ _ (alloc_new _ _)
              have q1 : (wr.alloc (.cells #[.int .i64 cx, .int .i64 cy] 24)).cell? ⟨wr.heap.size, 1, none⟩ = some (.int .i64 cy) := cell_of_row _ _ _ _ _ _ (alloc_new _ _)
              clear hsz hW
              dsimp only at HN e0 e1
              have HB := Lib.hid (And.intro (((hgw.out).alloc (.cells #[.int .i64 cx, .int .i64 cy] 24))) ((Below.heap_alloc wr (.cells #[.int .i64 cx, .int .i64 cy] 24) w.heap.size (Array.getElem?_eq_some_iff.1 hrs.out).1).trans hrs.out))
              go_wp2_with fail
              generalize wr.alloc _ = W at *
              go_still_tail 14, (by kernel_rfl)
              still_call (of1_still _ _ _)
              repeat still_step
              still_call (of1_still _ _ _)
              repeat still_step
              still_call (of1_still _ _ _)
              repeat still_step
              refine wpStill_nil ?_
              change wpList _ _ _ _ _ W.drew
              generalize hm1 : (if cy < lo then cy else lo) = m1
              have e5 : m1 = min lo cy := by rw [← hm1]; split <;> omega
              have HE5 := Lib.hid e5
              clear hm1 e5
              go_wp2_with fail
              have hW2 : (W.setCell ⟨w1.heap.size, 1, none⟩ (.int .i64 m1)).drew.heap[w1.heap.size]? = _ := put1 HW.out m1
              have q2 : (W.setCell ⟨w1.heap.size, 1, none⟩ (.int .i64 m1)).drew.cell? ⟨wr.heap.size, 0, none⟩ = some (.int .i64 cx) := (cell_other (by have := HSZ.out; omega)).trans q0
              have q3 : (W.setCell ⟨w1.heap.size, 1, none⟩ (.int .i64 m1)).drew.cell? ⟨wr.heap.size, 1, none⟩ = some (.int .i64 cy) := (cell_other (by have := HSZ.out; omega)).trans q1
              have hB2 : Grew w (W.setCell ⟨w1.heap.size, 1, none⟩ (.int .i64 m1)).drew ∧ (W.setCell ⟨w1.heap.size, 1, none⟩ (.int .i64 m1)).drew.heap[w.heap.size]? = some (.cells (boxRow 0 0 0 0) 66 (0, 0)) := ⟨(grew_setCell HB.out.1 (Nat.le_of_lt HLT.out) (.int .i64 m1) (g := w1.heap.size) (o := 1)).drew, (heap_other (g := w1.heap.size) (off := 1) (v := .int .i64 m1) (by have := HLT.out; omega)).trans HB.out.2⟩
              have HB2 := Lib.hid hB2
              have HW2 := Lib.hid hW2
              clear k0 k1 k2 k3 f0 f1 f2 f3 HW hW2 hB2 q0 q1
              obtain ⟨k0, k1, k2, k3⟩ := box_cells HW2.out
              obtain ⟨f0, f1, f2, f3⟩ := box_frozen HW2.out
              generalize (W.setCell _ _).drew = W5 at *
              go_still_tail 14, (by kernel_rfl)
              still_call (of1_still _ _ _)
              repeat still_step
              still_call (of1_still _ _ _)
              repeat still_step
              still_call (of1_still _ _ _)
              repeat still_step
              refine wpStill_nil ?_
              change wpList _ _ _ _ _ W5.drew
              generalize hm2 : (if hi < cy then cy else hi) = m2
              have e6 : m2 = max hi cy := by rw [← hm2]; split <;> omega
              have HE6 := Lib.hid e6
              clear hm2 e6
              go_wp2_with fail
              have hW2 : (W5.setCell ⟨w1.heap.size, 3, none⟩ (.int .i64 m2)).drew.heap[w1.heap.size]? = _ := put3 HW2.out m2
              have q4 : (W5.setCell ⟨w1.heap.size, 3, none⟩ (.int .i64 m2)).drew.cell? ⟨wr.heap.size, 0, none⟩ = some (.int .i64 cx) := (cell_other (by have := HSZ.out; omega)).trans q2
              have q5 : (W5.setCell ⟨w1.heap.size, 3, none⟩ (.int .i64 m2)).drew.cell? ⟨wr.heap.size, 1, none⟩ = some (.int .i64 cy) := (cell_other (by have := HSZ.out; omega)).trans q3
              have hB2 : Grew w (W5.setCell ⟨w1.heap.size, 3, none⟩ (.int .i64 m2)).drew ∧ (W5.setCell ⟨w1.heap.size, 3, none⟩ (.int .i64 m2)).drew.heap[w.heap.size]? = some (.cells (boxRow 0 0 0 0) 66 (0, 0)) := ⟨(grew_setCell HB2.out.1 (Nat.le_of_lt HLT.out) (.int .i64 m2) (g := w1.heap.size) (o := 3)).drew, (heap_other (g := w1.heap.size) (off := 3) (v := .int .i64 m2) (by have := HLT.out; omega)).trans HB2.out.2⟩
              have HB3 := Lib.hid hB2
              have HW3 := Lib.hid hW2
              clear k0 k1 k2 k3 f0 f1 f2 f3 HW2 hW2 hB2 q2 q3
              generalize (W5.setCell _ _).drew = W6 at *
              go_roundw
              case rel => exact ⟨j + 1, by omega, by go_num, by rw [HN.out.1, HN.out.2, ← HE5.out, ← HE6.out]; exact HW3.out, HB3.out.2, HB3.out.1⟩
              case measure => simp [intOf]; omega
            · obtain rfl : n = j := by omega
              obtain ⟨k0, k1, k2, k3⟩ := box_cells hbx.out
              obtain ⟨f0, f1, f2, f3⟩ := box_frozen hbx.out
              have hw1 : wrap64 (maxK Pt.y z.y P n + 1) = maxK Pt.y z.y P n + 1 := by have := maxK_y HVE.out HL.out HZ.out n; unfold wrap64; omega
              have hbx2 : (wr.setCell ⟨w1.heap.size, 3, none⟩ (.int .i64 (maxK Pt.y z.y P n + 1))).heap[w1.heap.size]? = some (.cells (boxRow (minK Pt.x z.x P n) (minK Pt.y z.y P n) (maxK Pt.x z.x P n + 1) (maxK Pt.y z.y P n + 1)) 66 (0, 0)) := put3 hbx.out _
              have HLT : Hid (w.heap.size < w1.heap.size) := Lib.hid (by have := HG1.out.size; simp at this; omega)
              have hB2 : Grew w (wr.setCell ⟨w1.heap.size, 3, none⟩ (.int .i64 (maxK Pt.y z.y P n + 1))) ∧ (wr.setCell ⟨w1.heap.size, 3, none⟩ (.int .i64 (maxK Pt.y z.y P n + 1))).heap[w.heap.size]? = some (.cells (boxRow 0 0 0 0) 66 (0, 0)) := ⟨grew_setCell hgw.out (Nat.le_of_lt HLT.out) _, (heap_other (by have := HLT.out; omega)).trans hrs.out⟩
              have HBX := Lib.hid hbx2
              have HB2 := Lib.hid hB2
              clear hbx2 hB2
              go_wp2_with (first | (go_at_fn 72; refine (of1_any _ _ _).mono ?_; rintro e w' ⟨rfl, rfl⟩))
              rw [hw1]
              clear k0 k1 k2 k3 f0 f1 f2 f3
              generalize wr.setCell _ _ = W8 at *
              obtain ⟨k0, k1, k2, k3⟩ := box_cells HBX.out
              obtain ⟨r0, r1, r2, r3⟩ := box_cells HB2.out.2
              obtain ⟨f0, f1, f2, f3⟩ := box_frozen HB2.out.2
              rw [rounds_succ]
              go_wp2_with fail
              refine bodyPost_ret (results_box rfl rfl (put_box HB2.out.2 (minK Pt.x z.x P n) (minK Pt.y z.y P n) (maxK Pt.x z.x P n + 1) (maxK Pt.y z.y P n + 1))) rfl ⟨?_, ?_⟩
              · have hb := bounds_fold (l := P) (by rw [HL.out]; omega) HVE.out.symm
                rw [← HZ.out, HL.out] at hb
                unfold boundsV
                rw [hb]
                rfl
              · have hsz : w.heap.size ≤ w.heap.size := Nat.le_refl _
                exact grew_setCell (grew_setCell (grew_setCell (grew_setCell HB2.out.1 hsz _) hsz _) hsz _) hsz _
end Go.Proofs.YtjiiikeniocmfaaGreat
