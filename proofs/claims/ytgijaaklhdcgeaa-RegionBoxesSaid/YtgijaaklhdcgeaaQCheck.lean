/- ring.Check -/
import Derived.Test.YtgijaaklhdcgeaaQApart
set_option linter.unusedSimpArgs false
set_option linter.unusedVariables false
namespace Go.Proofs.Ytgijaaklhdcgeaa
open Go.RowKit Go.Geo
attribute [local go_sem] Oper.semAt_some
def lookK (P : List Pt) (k : Nat) : Option (Int × Int) := match k with
  | 0 => sizeL P.length
  | 1 => validL P
  | 2 => unlikeL P
  | 3 => aheadL P
  | _ => apartL P
theorem ringCheck_eq (P : List Pt) : ringCheckP P = ((lookK P 0).or ((lookK P 1).or ((lookK P 2).or ((lookK P 3).or (lookK P 4))))).getD (0, 0) := by
  unfold ringCheckP lookK sizeL validL unlikeL aheadL apartL
  try dsimp only
  by_cases h1 : 200 < P.length
  · rw [if_pos h1, if_pos h1]; rfl
  · rw [if_neg h1, if_neg h1]
    by_cases h2 : P.length < 3
    · rw [if_pos h2, if_pos h2]; rfl
    · rw [if_neg h2, if_neg h2]
      cases firstP P.length (fun i => !validP (P.getD i p0)) with
      | some i => rfl
      | none =>
        cases firstP P.length (twiceP P) with
        | some i => rfl
        | none =>
          cases firstP P.length (backP P) with
          | some i => rfl
          | none =>
            cases firstP P.length (meetsP P) with
            | some i => rfl
            | none => rfl
theorem ringCheck_none {P : List Pt} (h : ∀ j, j < 5 → lookK P j = none) : ringCheckP P = (0, 0) := by
  rw [ringCheck_eq, h 0 (by omega), h 1 (by omega), h 2 (by omega), h 3 (by omega), h 4 (by omega)]; rfl
theorem ringCheck_some {P : List Pt} {k : Nat} {x : Int × Int} (hk : k < 5) (h : ∀ j, j < k → lookK P j = none) (hx : lookK P k = some x) : ringCheckP P = x := by
  rw [ringCheck_eq]
  match k, hk with
  | 0, _ => rw [hx]; rfl
  | 1, _ => rw [h 0 (by omega), hx]; rfl
  | 2, _ => rw [h 0 (by omega), h 1 (by omega), hx]; rfl
  | 3, _ => rw [h 0 (by omega), h 1 (by omega), h 2 (by omega), hx]; rfl
  | 4, _ => rw [h 0 (by omega), h 1 (by omega), h 2 (by omega), h 3 (by omega), hx]; rfl
theorem size_none {P : List Pt} (h : lookK P 0 = none) : 3 ≤ P.length ∧ P.length ≤ 200 := by
  have h : sizeL P.length = none := h
  unfold sizeL at h
  by_cases h1 : 200 < P.length
  · rw [if_pos h1] at h; cases h
  · rw [if_neg h1] at h
    by_cases h2 : P.length < 3
    · rw [if_pos h2] at h; cases h
    · omega
theorem valid_none {P : List Pt} (h : lookK P 1 = none) : ∀ v ∈ P, validP v = true := by
  have h : validL P = none := h
  unfold validL at h
  intro v hv
  obtain ⟨i, hi, rfl⟩ := List.mem_iff_getElem.1 hv
  cases hf : firstP P.length (fun i => !validP (P.getD i p0)) with
  | some k => rw [hf] at h; cases h
  | none =>
    have := firstP_eq_none hf i hi
    rw [List.getD_eq_getElem?_getD, List.getElem?_eq_getElem hi] at this
    simpa using this
/-- the end: the answer stands in the fault's cell. -/
theorem fault_end {fn : Func} {p : Tmp} {x : Int × Int} {w w2 w3 : World} {a : Act} {u v : Int} (h : fn.results = #[.cell p 32]) (hp : a.tmps.getD p undef = .pointer (some ⟨w.heap.size, 0, none⟩)) (hd : a.defers = [])
    (hr : Hid (Below w.heap.size w w2 ∧ w2.heap[w.heap.size]? = some (.cells #[.int .i64 0, .int .i64 0] 32 (0, 0)))) (hw : w3 = (w2.setCell ⟨w.heap.size, 0, none⟩ (.int .i64 u)).setCell ⟨w.heap.size, 1, none⟩ (.int .i64 v)) (ho : x = (u, v)) :
    bodyPost Try.prog fn (fun e w' => e = .returned (faultV x) ∧ Below w.heap.size w w') .ret a w3 := by
  subst hw ho
  exact bodyPost_ret (results_cell_row h a.tmps _ _ _ _ _ _ hp (put_two hr.out.2 _ _) Try.underlying32 rfl (by kernel_rfl)) hd ⟨rfl, (hr.out.1.setCell (p := ⟨w.heap.size, 0, none⟩) (Nat.le_refl _) _).setCell (p := ⟨w.heap.size, 1, none⟩) (Nat.le_refl _) _⟩
theorem look_any (k : Nat) (hk : k < 5) (ao : Option Addr) (n cap : Nat) (P : List Pt) (w : World) (h : IsPts w ao n cap P) (hq : ∀ j, j < k → lookK P j = none) :
    Calls Try.prog (match k with | 0 => 55 | 1 => 56 | 2 => 57 | 3 => 58 | _ => 59) #[.slice ao n cap] w fun e w' => e = .returned (lookV (lookK P k)) ∧ Below w.heap.size w w' := by
  have hl := h.1
  match k, hk with
  | 0, _ =>
    have := (size_any ao n cap w (Nat.le_trans h.2.1 h.2.2.1)).mono (R' := fun e w' => e = .returned (lookV (lookK P 0)) ∧ Below w.heap.size w w') (fun e w' h => ⟨by rw [h.1, ← hl]; rfl, h.2.1⟩)
    exact this
  | 1, _ => exact (valid1_any ao n cap P w h).mono fun e w' h => ⟨h.1, h.2.1⟩
  | 2, _ => exact unlike_any ao n cap P w h (valid_none (hq 1 (by omega)))
  | 3, _ =>
    have := size_none (hq 0 (by omega))
    exact (ahead_any ao n cap P w h (by omega) (by omega)).mono fun e w' h => ⟨h.1, h.2.1⟩
  | 4, _ =>
    have := size_none (hq 0 (by omega))
    exact apart_any ao n cap P w h (by omega)

set_option maxRecDepth 100000 in
set_option maxHeartbeats 2000000 in
theorem Check_ring (ao : Option Addr) (n cap : Nat) (P : List Pt) (w : World) (h : IsPts w ao n cap P) :
    Calls Try.prog 33 #[.slice ao n cap] w fun e w' => e = .returned (faultV (ringCheckP P)) ∧ Below w.heap.size w w' := by
  have HI := Lib.hid h
  have HLK := Lib.hid (fun (k : Nat) (hk : k < 5) w h hq => look_any k hk ao n cap P w h hq)
  have hA : Below w.heap.size w (w.alloc (.cells #[.int .i64 0, .int .i64 0] 32)) := (Below.refl _ _).alloc (Nat.le_refl _) _

  have en0 := enters_of Try.func55 (by kernel_rfl) rfl
  have en1 := enters_of Try.func56 (by kernel_rfl) rfl
  have en2 := enters_of Try.func57 (by kernel_rfl) rfl
  have en3 := enters_of Try.func58 (by kernel_rfl) rfl
  have en4 := enters_of Try.func59 (by kernel_rfl) rfl
  clear h hA
  go_enter Try.func33, Try.ntmps33
  go_wp2
  obtain ⟨W0, hW0⟩ : ∃ W, W = (w.alloc (.cells #[.int .i64 0, .int .i64 0] 32)).alloc (.cells #[.func (.func 55) #[] #[], .func (.func 56) #[] #[], .func (.func 57) #[] #[], .func (.func 58) #[] #[], .func (.func 59) #[] #[]] 73) := ⟨_, rfl⟩
  have hrow := alloc_new2 w (.cells #[.int .i64 0, .int .i64 0] 32) (.cells #[.func (.func 55) #[] #[], .func (.func 56) #[] #[], .func (.func 57) #[] #[], .func (.func 58) #[] #[], .func (.func 59) #[] #[]] 73)
  rw [← hW0] at hrow ⊢
  have hb0 : Below (w.heap.size + 1) (w.alloc (.cells #[.int .i64 0, .int .i64 0] 32)) W0 := by rw [hW0]; exact (Below.refl _ _).alloc (by simp) _
  have hs0 : W0.heap.size = w.heap.size + 2 := by rw [hW0]; simp
  have HR := Lib.hid (And.intro hrow (And.intro hb0 hs0))
  clear hrow hb0 hs0 hW0
  go_loopw [9] (fun i wr => ∃ k : Nat, k ≤ 5 ∧ i = .int .i64 k ∧ Hid (∀ j, j < k → lookK P j = none) ∧ Hid (Below W0.heap.size W0 wr)) (fun i _ => 5 - (intOf i).toNat)
  case atStart => exact ⟨0, by omega, rfl, (fun j hj => absurd hj (by omega)), Below.refl _ _⟩
  case round =>
    obtain ⟨k, hk, rfl, hq, hb⟩ := hrel
    have hrow := (hb.out.block (w.heap.size + 1) (by rw [HR.out.2.2]; omega)).trans HR.out.1
    have hbf : Below (w.heap.size + 1) (w.alloc (.cells #[.int .i64 0, .int .i64 0] 32)) wr := HR.out.2.1.trans (hb.out.mono (by rw [HR.out.2.2]; omega))
    have hwr : w.heap.size + 1 ≤ wr.heap.size := by have := hb.out.size; rw [HR.out.2.2] at this; omega
    have HBF := Lib.hid (And.intro hbf hwr)
    have hpt : IsPts wr ao n cap P := HI.out.later (((Below.refl _ _).alloc (Nat.le_refl _) _).trans (hbf.mono (Nat.le_succ _))) (Nat.le_refl _)
    have HPT := Lib.hid hpt
    clear hpt hbf hwr
    match k, hk with
    | 0, _ =>
      have cf : wr.cell? ⟨w.heap.size + 1, 0, none⟩ = _ := cell_of_row _ _ _ _ _ _ hrow
      have HC := Lib.hid (HLK.out 0 (by omega) wr HPT.out hq.out)
      try dsimp only at HC
      obtain ⟨o, ho⟩ : ∃ o, o = lookK P 0 := ⟨_, rfl⟩
      rw [← ho] at HC
      have HO := Lib.hid ho
      clear hrow ho
      cases o with
      | none =>
        go_wp2_with fail
        refine HC.out.mono ?_
        rintro e w2 ⟨rfl, hb2⟩
        unfold lookV faultV
        have HB2 := Lib.hid hb2
        clear hb2 cf
        go_wp2_with fail
        go_roundw
        case rel =>
          refine ⟨1, by omega, by rfl, Lib.hid fun j hj => ?_, Lib.hid (hb.out.trans ((HB2.out.alloc HB2.out.size _).mono hb.out.size))⟩
          by_cases hik : j < 0
          · exact hq.out j hik
          · obtain rfl : j = 0 := by omega
            exact HO.out.symm
        case measure => simp [intOf]
      | some x =>
        obtain ⟨x, y⟩ := x
        go_wp2_with fail
        refine HC.out.mono ?_
        rintro e w2 ⟨rfl, hb2⟩
        unfold lookV faultV
        obtain ⟨k0, k1, f0, f1, HG⟩ := fault_cellsB (w2 := w2.alloc (.cells #[.int .i64 x, .int .i64 y] 32)) (HBF.out.1.trans ((hb2.alloc hb2.size _).mono HBF.out.2))
        clear hb2 cf
        go_wp2_with fail
        exact fault_end rfl rfl rfl HG rfl (ringCheck_some (by omega) hq.out HO.out.symm)
    | 1, _ =>
      have cf : wr.cell? ⟨w.heap.size + 1, 1, none⟩ = _ := cell_of_row _ _ _ _ _ _ hrow
      have HC := Lib.hid (HLK.out 1 (by omega) wr HPT.out hq.out)
      try dsimp only at HC
      obtain ⟨o, ho⟩ : ∃ o, o = lookK P 1 := ⟨_, rfl⟩
      rw [← ho] at HC
      have HO := Lib.hid ho
      clear hrow ho
      cases o with
      | none =>
        go_wp2_with fail
        refine HC.out.mono ?_
        rintro e w2 ⟨rfl, hb2⟩
        unfold lookV faultV
        have HB2 := Lib.hid hb2
        clear hb2 cf
        go_wp2_with fail
        go_roundw
        case rel =>
          refine ⟨2, by omega, by rfl, Lib.hid fun j hj => ?_, Lib.hid (hb.out.trans ((HB2.out.alloc HB2.out.size _).mono hb.out.size))⟩
          by_cases hik : j < 1
          · exact hq.out j hik
          · obtain rfl : j = 1 := by omega
            exact HO.out.symm
        case measure => simp [intOf]
      | some x =>
        obtain ⟨x, y⟩ := x
        go_wp2_with fail
        refine HC.out.mono ?_
        rintro e w2 ⟨rfl, hb2⟩
        unfold lookV faultV
        obtain ⟨k0, k1, f0, f1, HG⟩ := fault_cellsB (w2 := w2.alloc (.cells #[.int .i64 x, .int .i64 y] 32)) (HBF.out.1.trans ((hb2.alloc hb2.size _).mono HBF.out.2))
        clear hb2 cf
        go_wp2_with fail
        exact fault_end rfl rfl rfl HG rfl (ringCheck_some (by omega) hq.out HO.out.symm)
    | 2, _ =>
      have cf : wr.cell? ⟨w.heap.size + 1, 2, none⟩ = _ := cell_of_row _ _ _ _ _ _ hrow
      have HC := Lib.hid (HLK.out 2 (by omega) wr HPT.out hq.out)
      try dsimp only at HC
      obtain ⟨o, ho⟩ : ∃ o, o = lookK P 2 := ⟨_, rfl⟩
      rw [← ho] at HC
      have HO := Lib.hid ho
      clear hrow ho
      cases o with
      | none =>
        go_wp2_with fail
        refine HC.out.mono ?_
        rintro e w2 ⟨rfl, hb2⟩
        unfold lookV faultV
        have HB2 := Lib.hid hb2
        clear hb2 cf
        go_wp2_with fail
        go_roundw
        case rel =>
          refine ⟨3, by omega, by rfl, Lib.hid fun j hj => ?_, Lib.hid (hb.out.trans ((HB2.out.alloc HB2.out.size _).mono hb.out.size))⟩
          by_cases hik : j < 2
          · exact hq.out j hik
          · obtain rfl : j = 2 := by omega
            exact HO.out.symm
        case measure => simp [intOf]
      | some x =>
        obtain ⟨x, y⟩ := x
        go_wp2_with fail
        refine HC.out.mono ?_
        rintro e w2 ⟨rfl, hb2⟩
        unfold lookV faultV
        obtain ⟨k0, k1, f0, f1, HG⟩ := fault_cellsB (w2 := w2.alloc (.cells #[.int .i64 x, .int .i64 y] 32)) (HBF.out.1.trans ((hb2.alloc hb2.size _).mono HBF.out.2))
        clear hb2 cf
        go_wp2_with fail
        exact fault_end rfl rfl rfl HG rfl (ringCheck_some (by omega) hq.out HO.out.symm)
    | 3, _ =>
      have cf : wr.cell? ⟨w.heap.size + 1, 3, none⟩ = _ := cell_of_row _ _ _ _ _ _ hrow
      have HC := Lib.hid (HLK.out 3 (by omega) wr HPT.out hq.out)
      try dsimp only at HC
      obtain ⟨o, ho⟩ : ∃ o, o = lookK P 3 := ⟨_, rfl⟩
      rw [← ho] at HC
      have HO := Lib.hid ho
      clear hrow ho
      cases o with
      | none =>
        go_wp2_with fail
        refine HC.out.mono ?_
        rintro e w2 ⟨rfl, hb2⟩
        unfold lookV faultV
        have HB2 := Lib.hid hb2
        clear hb2 cf
        go_wp2_with fail
        go_roundw
        case rel =>
          refine ⟨4, by omega, by rfl, Lib.hid fun j hj => ?_, Lib.hid (hb.out.trans ((HB2.out.alloc HB2.out.size _).mono hb.out.size))⟩
          by_cases hik : j < 3
          · exact hq.out j hik
          · obtain rfl : j = 3 := by omega
            exact HO.out.symm
        case measure => simp [intOf]
      | some x =>
        obtain ⟨x, y⟩ := x
        go_wp2_with fail
        refine HC.out.mono ?_
        rintro e w2 ⟨rfl, hb2⟩
        unfold lookV faultV
        obtain ⟨k0, k1, f0, f1, HG⟩ := fault_cellsB (w2 := w2.alloc (.cells #[.int .i64 x, .int .i64 y] 32)) (HBF.out.1.trans ((hb2.alloc hb2.size _).mono HBF.out.2))
        clear hb2 cf
        go_wp2_with fail
        exact fault_end rfl rfl rfl HG rfl (ringCheck_some (by omega) hq.out HO.out.symm)
    | 4, _ =>
      have cf : wr.cell? ⟨w.heap.size + 1, 4, none⟩ = _ := cell_of_row _ _ _ _ _ _ hrow
      have HC := Lib.hid (HLK.out 4 (by omega) wr HPT.out hq.out)
      try dsimp only at HC
      obtain ⟨o, ho⟩ : ∃ o, o = lookK P 4 := ⟨_, rfl⟩
      rw [← ho] at HC
      have HO := Lib.hid ho
      clear hrow ho
      cases o with
      | none =>
        go_wp2_with fail
        refine HC.out.mono ?_
        rintro e w2 ⟨rfl, hb2⟩
        unfold lookV faultV
        have HB2 := Lib.hid hb2
        clear hb2 cf
        go_wp2_with fail
        go_roundw
        case rel =>
          refine ⟨5, by omega, by rfl, Lib.hid fun j hj => ?_, Lib.hid (hb.out.trans ((HB2.out.alloc HB2.out.size _).mono hb.out.size))⟩
          by_cases hik : j < 4
          · exact hq.out j hik
          · obtain rfl : j = 4 := by omega
            exact HO.out.symm
        case measure => simp [intOf]
      | some x =>
        obtain ⟨x, y⟩ := x
        go_wp2_with fail
        refine HC.out.mono ?_
        rintro e w2 ⟨rfl, hb2⟩
        unfold lookV faultV
        obtain ⟨k0, k1, f0, f1, HG⟩ := fault_cellsB (w2 := w2.alloc (.cells #[.int .i64 x, .int .i64 y] 32)) (HBF.out.1.trans ((hb2.alloc hb2.size _).mono HBF.out.2))
        clear hb2 cf
        go_wp2_with fail
        exact fault_end rfl rfl rfl HG rfl (ringCheck_some (by omega) hq.out HO.out.symm)
    | 5, _ =>
      obtain ⟨k0, k1, f0, f1, HG⟩ := fault_cellsB HBF.out.1
      clear hrow
      go_wp2_with fail
      exact fault_end rfl rfl rfl HG rfl (ringCheck_none hq.out)
end Go.Proofs.Ytgijaaklhdcgeaa
