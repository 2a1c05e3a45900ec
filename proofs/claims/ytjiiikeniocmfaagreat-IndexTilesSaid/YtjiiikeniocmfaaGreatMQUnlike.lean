/- ring.size -/
import Derived.Test.YtjiiikeniocmfaaGreatMQRing1
import Derived.Test.YtjiiikeniocmfaaGreatMQCont
import Derived.Maps.OwnSet
import Derived.DeepKeys4
set_option linter.unusedSimpArgs false
set_option linter.unusedVariables false
namespace Go.Proofs.YtjiiikeniocmfaaGreat
open Go.RowKit Go.Geo
attribute [local go_sem] Oper.semAt_some
/-- what a look at a ring tells: a fault, or none. -/
def lookV (o : Option (Int × Int)) : Value := match o with
  | some x => .tuple #[faultV x, .bool true]
  | none => .tuple #[faultV (0, 0), .bool false]
theorem put_two {w : World} {g : Nat} {t : TypeId} {a b : Value} (h : w.heap[g]? = some (.cells #[a, b] t (0, 0))) (x y : Value) : ((w.setCell ⟨g, 0, none⟩ x).setCell ⟨g, 1, none⟩ y).heap[g]? = some (.cells #[x, y] t (0, 0)) :=
  heap_setCell_same _ _ 1 _ _ _ (heap_setCell_same _ _ 0 _ _ _ h)
/-- the fault's cell, after a call that grew the memory. -/
theorem fault_cells {w w2 : World} (hg : Grew (w.alloc (.cells #[.int .i64 0, .int .i64 0] 35)) w2) : w2.cell? ⟨w.heap.size, 0, none⟩ = some (.int .i64 0) ∧ w2.cell? ⟨w.heap.size, 1, none⟩ = some (.int .i64 0) ∧ w2.frozen? ⟨w.heap.size, 0, none⟩ = false ∧ w2.frozen? ⟨w.heap.size, 1, none⟩ = false ∧ Hid (Grew w w2 ∧ w2.heap[w.heap.size]? = some (.cells #[.int .i64 0, .int .i64 0] 35 (0, 0))) := by
  have hr := (hg.1.block w.heap.size (by simp)).trans (alloc_new _ _)
  exact ⟨cell_of_row _ _ _ _ _ _ hr, cell_of_row _ _ _ _ _ _ hr, frozen_of_row _ _ _ _ _ hr, frozen_of_row _ _ _ _ _ hr, Lib.hid ⟨((Grew.refl w).alloc _).trans hg, hr⟩⟩
/-- the end of a look: its result stands in the fault's cell. -/
theorem look_end {fn : Func} {p u : Tmp} {o : Option (Int × Int)} {w w2 w3 : World} {a : Act} {x y : Int} {bb : Bool} (h : fn.results = #[.cell p 35, .tmp u]) (hp : a.tmps.getD p undef = .pointer (some ⟨w.heap.size, 0, none⟩)) (hu : a.tmps.getD u undef = .bool bb) (hd : a.defers = [])
    (hr : Hid (Grew w w2 ∧ w2.heap[w.heap.size]? = some (.cells #[.int .i64 0, .int .i64 0] 35 (0, 0)))) (hw : w3 = (w2.setCell ⟨w.heap.size, 0, none⟩ (.int .i64 x)).setCell ⟨w.heap.size, 1, none⟩ (.int .i64 y)) (ho : lookV o = .tuple #[faultV (x, y), .bool bb]) :
    bodyPost Tryz.prog fn (fun e w' => e = .returned (lookV o) ∧ Grew w w') .ret a w3 := by
  subst hw
  refine bodyPost_ret (results_fault h hp (put_two hr.out.2 _ _)) hd ⟨?_, grew_setCell (grew_setCell hr.out.1 (Nat.le_refl _) _) (Nat.le_refl _) _⟩
  rw [ho, hu]
  rfl
def sizeL (n : Nat) : Option (Int × Int) := if 200 < n then some (3, 0) else if n < 3 then some (190, 0) else none
set_option maxRecDepth 100000 in
theorem size_any (ao : Option Addr) (n cap : Nat) (w : World) (hm : n ≤ maxLen) : Calls Tryz.prog 63 #[.slice ao n cap] w fun e w' => e = .returned (lookV (sizeL n)) ∧ Grew w w' := by
  have HB := Lib.hid bad_any
  unfold maxLen at hm
  obtain ⟨o, ho⟩ : ∃ o, o = sizeL n := ⟨_, rfl⟩
  have HO := Lib.hid ho
  rw [← ho]
  clear ho
  go_enter Tryz.func63, Tryz.ntmps63
  by_cases h1 : 200 < n
  · have hi : (200 : Int) < (n : Int) := by omega
    obtain rfl : o = some (3, 0) := by rw [HO.out]; unfold sizeL; rw [if_pos h1]
    go_wp2_with fail
    refine (HB.out 3 0 _).mono ?_
    rintro e w2 ⟨rfl, hg⟩
    unfold faultV
    obtain ⟨c0, c1, f0, f1, HG⟩ := fault_cells hg
    clear hg
    go_wp2_with fail
    exact look_end rfl rfl rfl rfl HG rfl rfl
  · have hi : ¬ ((200 : Int) < (n : Int)) := by omega
    by_cases h2 : n < 3
    · have hi2 : (n : Int) < 3 := by omega
      obtain rfl : o = some (190, 0) := by rw [HO.out]; unfold sizeL; rw [if_neg h1, if_pos h2]
      go_wp2_with fail
      refine (HB.out 190 0 _).mono ?_
      rintro e w2 ⟨rfl, hg⟩
      unfold faultV
      obtain ⟨c0, c1, f0, f1, HG⟩ := fault_cells hg
      clear hg
      go_wp2_with fail
      exact look_end rfl rfl rfl rfl HG rfl rfl
    · have hi2 : ¬ ((n : Int) < 3) := by omega
      obtain rfl : o = none := by rw [HO.out]; unfold sizeL; rw [if_neg h1, if_neg h2]
      go_wp2_with fail
      exact bodyPost_ret (results_fault rfl rfl (alloc_new _ _)) rfl ⟨rfl, (Grew.refl _).alloc _⟩
end Go.Proofs.YtjiiikeniocmfaaGreat

/- ring.ahead -/
set_option linter.unusedSimpArgs false
set_option linter.unusedVariables false
namespace Go.Proofs.YtjiiikeniocmfaaGreat
open Go.RowKit Go.Geo
attribute [local go_sem] Oper.semAt_some
theorem heap_lt' {w : World} {j : Nat} {o : Obj} (h : w.heap[j]? = some o) : j < w.heap.size := (Array.getElem?_eq_some_iff.1 h).1
def aheadL (l : List Pt) : Option (Int × Int) := (firstP l.length (backP l)).map fun i => (192, (i : Int))
set_option maxRecDepth 100000 in
set_option maxHeartbeats 1000000 in
theorem ahead_any (ao : Option Addr) (n cap : Nat) (P : List Pt) (w : World) (h : IsPts w ao n cap P) (hn : 0 < n) (hs : n ≤ 1048576) :
    Calls Tryz.prog 66 #[.slice ao n cap] w fun e w' => e = .returned (lookV (aheadL P)) ∧ Grew w w' := by
  have HB := Lib.hid bad_any
  have HAT : Hid (∀ (i : Int) (w : World), IsPts w ao n cap P → -1 ≤ i → i ≤ n → Calls Tryz.prog 101 #[.slice ao n cap, .int .i64 i] w fun e w' => e = .returned (ptV (atP P (i + n).toNat)) ∧ Grew w w') := Lib.hid (fun i w h h0 h1 => at_any i ao n cap P w h hn hs h0 h1)
  have HI := Lib.hid h
  have hl := h.1
  have hA : Grew w (w.alloc (.cells #[.int .i64 0, .int .i64 0] 35)) := (Grew.refl _).alloc _
  have HA := Lib.hid hA
  clear h hA
  go_enter Tryz.func66, Tryz.ntmps66
  go_wp2
  go_loopw [10] (fun i wr => ∃ k : Nat, k ≤ n ∧ i = .int .i64 k ∧ Hid (∀ j, j < k → backP P j = false) ∧ Hid (Grew (w.alloc (.cells #[.int .i64 0, .int .i64 0] 35)) wr)) (fun i _ => n - (intOf i).toNat)
  case atStart => exact ⟨0, by omega, rfl, (fun j hj => absurd hj (by omega)), Grew.refl _⟩
  case round =>
    obtain ⟨k, hk, rfl, hq, hb⟩ := hrel
    by_cases hlt : k < n
    · have hi0 : (0 : Int) ≤ (k : Int) := by omega
      have hi5 : (k : Int) < (n : Int) := by omega
      have hp := (HI.out.grew HA.out).grew hb.out
      obtain ⟨b, off, rfl, e0, e1⟩ := hp.at hlt
      obtain ⟨c, hc⟩ : ∃ c, c = P.getD k p0 := ⟨_, rfl⟩
      rw [← hc] at e0 e1
      have HP := Lib.hid hp
      have HC := Lib.hid hc
      clear hp hc
      obtain ⟨a, ha⟩ : ∃ a, a = atP P ((k : Int) - 1 + n).toNat := ⟨_, rfl⟩
      obtain ⟨d, hd⟩ : ∃ a, a = atP P ((k : Int) + 1 + n).toNat := ⟨_, rfl⟩
      have HAK := Lib.hid (fun w hw => HAT.out ((k : Int) - 1) w hw (by omega) (by omega))
      have HDK := Lib.hid (fun w hw => HAT.out ((k : Int) + 1) w hw (by omega) (by omega))
      rw [← ha] at HAK
      rw [← hd] at HDK
      have HBK : Hid (backP P k = (decide (turnP a c d = 0) && !onP c a d)) := Lib.hid (by
        unfold backP
        rw [HC.out, ha, hd]
        have e1 : ((k : Int) - 1 + n).toNat = k + P.length - 1 := by omega
        have e2 : atP P ((k : Int) + 1 + n).toNat = atP P (k + 1) := by
          unfold atP
          rw [show ((k : Int) + 1 + n).toNat = k + 1 + P.length by omega, Nat.add_mod_right]
        rw [e1, e2])
      unfold ptV at HAK HDK
      clear ha hd
      go_wp2_with fail
      refine (HAK.out _ (HP.out.grew ((Grew.refl _).alloc _))).mono ?_
      rintro e w2 ⟨rfl, g2⟩
      have r2 : w2.heap[wr.heap.size]? = _ := (g2.1.block wr.heap.size (by simp)).trans (alloc_new _ _)
      have H2 := Lib.hid (And.intro ((((Grew.refl wr).alloc (.cells #[.int .i64 c.x, .int .i64 c.y] 24))).trans g2) r2)
      clear g2 r2
      go_wp2_with fail
      refine (HDK.out _ (HP.out.grew H2.out.1)).mono ?_
      rintro e w3 ⟨rfl, g3⟩
      have r3 := (g3.1.block wr.heap.size (heap_lt' H2.out.2)).trans H2.out.2
      have q3 := heap_lt' r3
      have rC : ((w3.alloc (.cells #[.int .i64 a.x, .int .i64 a.y] 24)).alloc (.cells #[.int .i64 d.x, .int .i64 d.y] 24)).heap[wr.heap.size]? = _ := (Below.heap_alloc _ _ _ (by simp; omega)).trans ((Below.heap_alloc _ _ _ q3).trans r3)
      have rA : ((w3.alloc (.cells #[.int .i64 a.x, .int .i64 a.y] 24)).alloc (.cells #[.int .i64 d.x, .int .i64 d.y] 24)).heap[w3.heap.size]? = _ := (Below.heap_alloc _ _ _ (by simp)).trans (alloc_new _ _)
      have rD := alloc_new2 w3 (.cells #[.int .i64 a.x, .int .i64 a.y] 24) (.cells #[.int .i64 d.x, .int .i64 d.y] 24)
      have c0 : ((w3.alloc (.cells #[.int .i64 a.x, .int .i64 a.y] 24)).alloc (.cells #[.int .i64 d.x, .int .i64 d.y] 24)).cell? ⟨wr.heap.size, 0, none⟩ = some (.int .i64 c.x) := cell_of_row _ _ _ _ _ _ rC
      have c1 : ((w3.alloc (.cells #[.int .i64 a.x, .int .i64 a.y] 24)).alloc (.cells #[.int .i64 d.x, .int .i64 d.y] 24)).cell? ⟨wr.heap.size, 1, none⟩ = some (.int .i64 c.y) := cell_of_row _ _ _ _ _ _ rC
      have H3 := Lib.hid (And.intro (((H2.out.1.trans g3).alloc (.cells #[.int .i64 a.x, .int .i64 a.y] 24)).alloc (.cells #[.int .i64 d.x, .int .i64 d.y] 24)) (And.intro rC (And.intro rA rD)))
      have HT := Lib.hid (Turn_any a c d)
      have HON := Lib.hid (On_any c a d)
      unfold ptV at HT HON
      clear g3 r3 H2 q3 rC rA rD
      go_wp2_with fail
      refine (HT.out _).mono ?_
      rintro e w5 ⟨rfl, g5⟩
      have s1 := (g5.1.block _ (heap_lt' H3.out.2.1)).trans H3.out.2.1
      have s2 := (g5.1.block _ (heap_lt' H3.out.2.2.1)).trans H3.out.2.2.1
      have s3 := (g5.1.block _ (heap_lt' H3.out.2.2.2)).trans H3.out.2.2.2
      have H5 := Lib.hid (H3.out.1.trans g5)
      have d0 : w5.cell? ⟨wr.heap.size, 0, none⟩ = some (.int .i64 c.x) := cell_of_row _ _ _ _ _ _ s1
      have d1 : w5.cell? ⟨wr.heap.size, 1, none⟩ = some (.int .i64 c.y) := cell_of_row _ _ _ _ _ _ s1
      have d2 : w5.cell? ⟨w3.heap.size, 0, none⟩ = some (.int .i64 a.x) := cell_of_row _ _ _ _ _ _ s2
      have d3 : w5.cell? ⟨w3.heap.size, 1, none⟩ = some (.int .i64 a.y) := cell_of_row _ _ _ _ _ _ s2
      have d4 : w5.cell? ⟨w3.heap.size + 1, 0, none⟩ = some (.int .i64 d.x) := cell_of_row _ _ _ _ _ _ s3
      have d5 : w5.cell? ⟨w3.heap.size + 1, 1, none⟩ = some (.int .i64 d.y) := cell_of_row _ _ _ _ _ _ s3
      clear g5 s1 s2 s3 H3 c0 c1
      by_cases ht : turnP a c d = 0
      · go_wp2_with fail
        refine (HON.out _).mono ?_
        rintro e w6 ⟨rfl, g6⟩
        have H6 := Lib.hid (H5.out.trans g6)
        clear g6
        obtain ⟨ho, hho⟩ : ∃ ho, ho = onP c a d := ⟨_, rfl⟩
        rw [← hho]
        have HHO := Lib.hid hho
        clear hho
        cases ho
        · go_wp2_with fail
          refine (HB.out 192 k _).mono ?_
          rintro e w7 ⟨rfl, g7⟩
          unfold faultV
          obtain ⟨k0, k1, f0, f1, HG⟩ := fault_cells (hb.out.trans (H6.out.trans g7))
          clear g7
          go_wp2_with fail
          change bodyPost Tryz.prog Tryz.f66 (fun e w' => e = .returned (lookV (aheadL P)) ∧ Grew w w') .ret _ _
          refine look_end rfl rfl rfl rfl HG rfl ?_
          have : aheadL P = some (192, (k : Int)) := by
            unfold aheadL
            rw [hl, firstP_some hlt (by rw [HBK.out, ← HHO.out, ht]; rfl) hq.out]
            rfl
          rw [this]; rfl
        · go_wp2_with fail
          refine ⟨⟨k + 1, by omega, by simp, Lib.hid fun j hj => ?_, Lib.hid (hb.out.trans H6.out)⟩, by simp [intOf]; omega⟩
          by_cases hik : j < k
          · exact hq.out j hik
          · obtain rfl : j = k := by omega
            rw [HBK.out, ← HHO.out, ht]; rfl
      · go_wp2_with fail
        refine ⟨⟨k + 1, by omega, by simp, Lib.hid fun j hj => ?_, Lib.hid (hb.out.trans H5.out)⟩, by simp [intOf]; omega⟩
        by_cases hik : j < k
        · exact hq.out j hik
        · obtain rfl : j = k := by omega
          rw [HBK.out, decide_eq_false ht]; rfl
    · obtain rfl : k = n := by omega
      have hi5 : ¬ ((k : Int) < (k : Int)) := by omega
      have hr := (hb.out.1.block w.heap.size (by simp)).trans (alloc_new _ _)
      obtain ⟨c0, c1, f0, f1, HG⟩ := fault_cells hb.out
      clear hr
      go_wp2_with fail
      refine look_end rfl rfl rfl rfl HG rfl ?_
      have : aheadL P = none := by unfold aheadL; rw [hl, firstP_none hq.out]; rfl
      rw [this]; rfl
end Go.Proofs.YtjiiikeniocmfaaGreat

/- ring.valid -/
set_option linter.unusedSimpArgs false
set_option linter.unusedVariables false
namespace Go.Proofs.YtjiiikeniocmfaaGreat
open Go.RowKit Go.Geo
attribute [local go_sem] Oper.semAt_some
def firstZ (n : Nat) (f : Nat → Bool) : Int := match firstP n f with
  | some i => (i : Int)
  | none => -1
theorem badp_any (p : Pt) (w : World) : Calls Tryz.prog 100 #[ptV p] w fun e w' => e = .returned (.bool (!validP p)) ∧ Grew w w' := by
  have HV := Lib.hid (Valid_any p)
  have hA : Grew w (w.alloc (.cells #[.int .i64 p.x, .int .i64 p.y] 24)) := (Grew.refl _).alloc _
  have HA := Lib.hid hA
  clear hA
  unfold ptV at HV ⊢
  go_enter Tryz.func100, Tryz.ntmps100
  go_wp2_with fail
  refine (HV.out _).mono ?_
  rintro e w1 ⟨rfl, hb1⟩
  go_wp2_with fail
  go_ret
  exact ⟨rfl, HA.out.trans hb1⟩
set_option maxRecDepth 100000 in
theorem IndexFn_any (ao : Option Addr) (n cap : Nat) (P : List Pt) (w : World) (h : IsPts w ao n cap P) :
    Calls Tryz.prog 99 #[.slice ao n cap, .func (.func 100) #[] #[]] w fun e w' => e = .returned (.int .i64 (firstZ n (fun i => !validP (P.getD i p0)))) ∧ Grew w w' := by
  have hcm := h.2.2.1
  have hnc := h.2.1
  unfold maxLen at hcm
  have HI := Lib.hid h
  clear h
  obtain ⟨z, hz⟩ : ∃ z, z = firstZ n (fun i => !validP (P.getD i p0)) := ⟨_, rfl⟩
  rw [← hz]
  have HZ := Lib.hid hz
  clear hz
  go_enter Tryz.func99, Tryz.ntmps99
  go_wp2
  go_loopw [8] (fun i wr => ∃ k : Nat, k ≤ n ∧ i = .int .i64 k ∧ Hid (∀ i, i < k → (!validP (P.getD i p0)) = false) ∧ Hid (Grew w wr)) (fun i _ => n - (intOf i).toNat)
  case atStart => exact ⟨0, by omega, rfl, fun i hi => absurd hi (by omega), Grew.refl _⟩
  case round =>
    obtain ⟨k, hk, rfl, hall, hbl⟩ := hrel
    by_cases hlt : k < n
    · have hi0 : (0 : Int) ≤ (k : Int) := by omega
      have hi5 : (k : Int) < (n : Int) := by omega
      obtain ⟨b, off, rfl, e0, e1⟩ := (HI.out.grew hbl.out).at hlt
      obtain ⟨c, hc⟩ : ∃ c, c = P.getD k p0 := ⟨_, rfl⟩
      rw [← hc] at e0 e1
      have HCE := Lib.hid hc
      obtain ⟨p, hp⟩ : ∃ p, p = !validP c := ⟨_, rfl⟩
      have HX := Lib.hid (badp_any c)
      rw [← hp] at HX
      unfold ptV at HX
      have HP := Lib.hid hp
      clear hc hp
      cases p with
      | true =>
        go_wp2_with fail
        refine (HX.out _).mono ?_
        rintro e w1 ⟨rfl, hb1⟩
        go_wp2_with fail
        go_ret
        refine ⟨?_, hbl.out.trans hb1⟩
        rw [HZ.out]
        unfold firstZ
        rw [firstP_some hlt (by rw [← HCE.out]; exact HP.out.symm) hall.out]
        rfl
      | false =>
        go_wp2_with fail
        refine (HX.out _).mono ?_
        rintro e w1 ⟨rfl, hb1⟩
        go_wp2_with fail
        go_roundw
        case rel =>
          refine ⟨k + 1, by omega, by go_num, fun i hi => ?_, hbl.out.trans hb1⟩
          by_cases hik : i < k
          · exact hall.out i hik
          · obtain rfl : i = k := by omega
            rw [← HCE.out]; exact HP.out.symm
        case measure => simp [intOf]; omega
    · obtain rfl : k = n := by omega
      go_wp2
      go_ret
      refine ⟨?_, hbl.out⟩
      rw [HZ.out]
      unfold firstZ
      rw [firstP_none hall.out]
      rfl
def validL (l : List Pt) : Option (Int × Int) := (firstP l.length (fun i => !validP (l.getD i p0))).map fun i => (2, (i : Int))
set_option maxRecDepth 100000 in
theorem valid1_any (ao : Option Addr) (n cap : Nat) (P : List Pt) (w : World) (h : IsPts w ao n cap P) :
    Calls Tryz.prog 64 #[.slice ao n cap] w fun e w' => e = .returned (lookV (validL P)) ∧ Grew w w' := by
  have HB := Lib.hid bad_any
  have hA : Grew w (w.alloc (.cells #[.int .i64 0, .int .i64 0] 35)) := (Grew.refl _).alloc _
  have HX := Lib.hid (IndexFn_any ao n cap P _ (h.grew hA))
  have hl := h.1
  obtain ⟨o, ho⟩ : ∃ o, o = firstP n (fun i => !validP (P.getD i p0)) := ⟨_, rfl⟩
  have HL : Hid (validL P = o.map fun i => (2, (i : Int))) := Lib.hid (by unfold validL; rw [hl, ho])
  unfold firstZ at HX
  rw [← ho] at HX
  clear h hA ho
  cases o with
  | none =>
    dsimp only at HX
    go_enter Tryz.func64, Tryz.ntmps64
    go_wp2_with fail
    refine HX.out.mono ?_
    rintro e w1 ⟨rfl, hb1⟩
    obtain ⟨k0, k1, f0, f1, HG⟩ := fault_cells hb1
    clear hb1
    go_wp2_with fail
    refine look_end rfl rfl rfl rfl HG rfl ?_
    rw [HL.out]; rfl
  | some k =>
    have hk0 : (0 : Int) ≤ (k : Int) := by omega
    dsimp only at HX
    go_enter Tryz.func64, Tryz.ntmps64
    go_wp2_with fail
    refine HX.out.mono ?_
    rintro e w1 ⟨rfl, hb1⟩
    have HB1 := Lib.hid hb1
    clear hb1
    go_wp2_with fail
    refine (HB.out 2 k _).mono ?_
    rintro e w2 ⟨rfl, hg⟩
    unfold faultV
    obtain ⟨k0, k1, f0, f1, HG⟩ := fault_cells (HB1.out.trans hg)
    clear hg
    go_wp2_with fail
    refine look_end rfl rfl rfl rfl HG rfl ?_
    rw [HL.out]; rfl
end Go.Proofs.YtjiiikeniocmfaaGreat

/- points as keys of a map -/
set_option linter.unusedSimpArgs false
set_option linter.unusedVariables false
namespace Go.Proofs.YtjiiikeniocmfaaGreat
open Go.RowKit Go.Geo Go.Maps
theorem laidOutQ : laidOutB Tryz.prog = true := by kernel_rfl
theorem rowPt : (24 : TypeId) < Tryz.prog.types.size := of_decide_eq_true (by kernel_rfl)
theorem widePt : (match Tryz.prog.underlying 24 with | some (.array _ _) | some (.struct _) => true | _ => false) = true := by rw [Tryz.underlying24]
set_option maxRecDepth 100000 in
theorem keyedPt : Keyed Tryz.prog 24 := Keyed.of_law (deep_law_laid laidOutQ (m := 2) (by omega) rowPt (by kernel_rfl) widePt)
theorem wf_i64 {a : Int} (h : -9223372036854775808 ≤ a) (k : a ≤ 9223372036854775807) : (Lit.int .i64 a).wf = true := by
  have e1 : IntKind.i64.min = -9223372036854775808 := by decide
  have e2 : IntKind.i64.max = 9223372036854775807 := by decide
  unfold Lit.wf
  dsimp only
  rw [e1, e2]
  simp [h, k]
/-- a point's key. -/
def keyL (p : Pt) : Lit := .string (keyBytes [.int .i64 p.x, .int .i64 p.y])
theorem key_pt {p : Pt} (h : validP p = true) : keyOf Tryz.prog 24 (ptV p) = some (keyL p) := by
  have hv := (validP_iff _).1 h
  have wx : (Lit.int .i64 p.x).wf = true := wf_i64 (by omega) (by omega)
  have wy : (Lit.int .i64 p.y).wf = true := wf_i64 (by omega) (by omega)
  have hk : Tryz.prog.keyType 24 = true := by kernel_rfl
  have hf : (ptV p).formed Tryz.prog 24 = true := by simp [ptV, Value.formed, Tryz.underlying24]; kernel_rfl
  unfold keyOf
  rw [Tryz.underlying24]
  dsimp only
  rw [hk, hf]
  obtain ⟨m, hm⟩ : ∃ m, Tryz.prog.types.size = m + 1 := ⟨_, (Nat.sub_add_cancel (Nat.lt_of_le_of_lt (Nat.zero_le _) rowPt)).symm⟩
  have h2 : Tryz.prog.cellsOf 24 = 2 := by kernel_rfl
  have h1 : Tryz.prog.cellsOf 3 = 1 := by kernel_rfl
  rw [hm]
  unfold Program.keyLits
  simp only [Tryz.underlying24]
  have hl : (ptV p).cells.toList = [.int .i64 p.x, .int .i64 p.y] := rfl
  have hi : ∀ z : Int, (Lit.int .i64 z).wf = true → Tryz.prog.keyLits (m + 1) 3 [.int .i64 z] = some [.int .i64 z] := fun z hz => by
    unfold Program.keyLits
    rw [Tryz.underlying3]
    dsimp only
    rw [if_pos ⟨rfl, hz⟩]
  rw [hl, h2]
  split
  · split
    · simp only [List.mapM_cons, List.mapM_nil, h1, List.drop, List.take, hi _ wx, hi _ wy]
      rfl
    · rename_i hh
      exact absurd ⟨rfl, by simp⟩ hh
  · rename_i hh
    exact absurd rfl hh
theorem keyL_is {p : Pt} (h : validP p = true) : keyOf Tryz.prog 24 (ptV p) = some (keyL p) := key_pt h
theorem ptV_inj {p q : Pt} (h : ptV p = ptV q) : p = q := by
  obtain ⟨a, b⟩ := p
  obtain ⟨c, d⟩ := q
  unfold ptV at h
  injection h with h
  have h := congrArg Array.toList h
  simp at h
  rw [h.1, h.2]
/-- the set of the points before. -/
noncomputable def setP {H : Type} (l : List Pt) : DataW H := setOf (.agg []) (l.map keyL)
theorem has_setP {H : Type} {l : List Pt} {p : Pt} (hl : ∀ v ∈ l, validP v = true) (h : validP p = true) : Maps.has (setP (H := H) l) (keyL p) = decide (p ∈ l) := by
  unfold setP
  rw [has_setOf _ _ _ (fun y hy => by obtain ⟨v, hv, rfl⟩ := List.mem_map.1 hy; exact keyedPt.key (keyL_is (hl v hv)))]
  rw [Bool.eq_iff_iff, List.any_eq_true, decide_eq_true_eq]
  constructor
  · rintro ⟨y, hy, hs⟩
    obtain ⟨v, hv, rfl⟩ := List.mem_map.1 hy
    have e := WideAt.sameKey_eq hs
    have k1 := keyL_is (hl v hv)
    have k2 := keyL_is h
    rw [e] at k1
    rw [← ptV_inj (keyedPt.inj k1 k2)]
    exact hv
  · intro hp
    exact ⟨keyL p, List.mem_map.2 ⟨p, hp, rfl⟩, WideAt.sameKey_self (keyedPt.key (keyL_is h))⟩
theorem setP_snoc {H : Type} (l : List Pt) (p : Pt) : setP (H := H) (l ++ [p]) = (setP l).put (keyL p) (.agg []) := by
  unfold setP
  rw [List.map_append, List.map_singleton, setOf_snoc]
end Go.Proofs.YtjiiikeniocmfaaGreat

/- ring.unlike -/
set_option linter.unusedSimpArgs false
set_option linter.unusedVariables false
namespace Go.Proofs.YtjiiikeniocmfaaGreat
open Go.RowKit Go.Geo Go.Maps
attribute [local go_sem] Oper.semAt_some
def unlikeL (l : List Pt) : Option (Int × Int) := (firstP l.length (twiceP l)).map fun i => (191, (i : Int))
theorem zeroUnit (w : World) : (zeroValue 90).run Tryz.prog w = .ok (.agg #[]) w := by kernel_rfl
theorem setP_nil {H : Type} : setP (H := H) [] = .map [] := rfl
/-- as fault_cells, look_end: where nothing is said of draws. -/
theorem fault_cellsB {w w2 : World} (hg : Below (w.heap.size + 1) (w.alloc (.cells #[.int .i64 0, .int .i64 0] 35)) w2) : w2.cell? ⟨w.heap.size, 0, none⟩ = some (.int .i64 0) ∧ w2.cell? ⟨w.heap.size, 1, none⟩ = some (.int .i64 0) ∧ w2.frozen? ⟨w.heap.size, 0, none⟩ = false ∧ w2.frozen? ⟨w.heap.size, 1, none⟩ = false ∧ Hid (Below w.heap.size w w2 ∧ w2.heap[w.heap.size]? = some (.cells #[.int .i64 0, .int .i64 0] 35 (0, 0))) := by
  have hr := (hg.block w.heap.size (by simp)).trans (alloc_new _ _)
  exact ⟨cell_of_row _ _ _ _ _ _ hr, cell_of_row _ _ _ _ _ _ hr, frozen_of_row _ _ _ _ _ hr, frozen_of_row _ _ _ _ _ hr, Lib.hid ⟨((Below.refl _ w).alloc (Nat.le_refl _) _).trans (hg.mono (by simp)), hr⟩⟩
theorem look_endB {fn : Func} {p u : Tmp} {o : Option (Int × Int)} {w w2 w3 : World} {a : Act} {x y : Int} {bb : Bool} (h : fn.results = #[.cell p 35, .tmp u]) (hp : a.tmps.getD p undef = .pointer (some ⟨w.heap.size, 0, none⟩)) (hu : a.tmps.getD u undef = .bool bb) (hd : a.defers = [])
    (hr : Hid (Below w.heap.size w w2 ∧ w2.heap[w.heap.size]? = some (.cells #[.int .i64 0, .int .i64 0] 35 (0, 0)))) (hw : w3 = (w2.setCell ⟨w.heap.size, 0, none⟩ (.int .i64 x)).setCell ⟨w.heap.size, 1, none⟩ (.int .i64 y)) (ho : lookV o = .tuple #[faultV (x, y), .bool bb]) :
    bodyPost Tryz.prog fn (fun e w' => e = .returned (lookV o) ∧ Below w.heap.size w w') .ret a w3 := by
  subst hw
  refine bodyPost_ret (results_fault h hp (put_two hr.out.2 _ _)) hd ⟨?_, (hr.out.1.setCell (p := ⟨w.heap.size, 0, none⟩) (Nat.le_refl _) _).setCell (p := ⟨w.heap.size, 1, none⟩) (Nat.le_refl _) _⟩
  rw [ho, hu]
  rfl
set_option maxRecDepth 100000 in
set_option maxHeartbeats 1000000 in
theorem unlike_any (ao : Option Addr) (n cap : Nat) (P : List Pt) (w : World) (h : IsPts w ao n cap P) (hv : ∀ v ∈ P, validP v = true) :
    Calls Tryz.prog 65 #[.slice ao n cap] w fun e w' => e = .returned (lookV (unlikeL P)) ∧ Below w.heap.size w w' := by
  have HB := Lib.hid bad_any
  have HI := Lib.hid h
  have hl := h.1
  have hcm := h.2.2.1
  have hnc := h.2.1
  unfold maxLen at hcm
  have HV := Lib.hid hv
  have hA : Grew w (w.alloc (.cells #[.int .i64 0, .int .i64 0] 35)) := (Grew.refl _).alloc _
  have HA := Lib.hid hA
  have hmm := @run_makeMap Tryz.prog
  clear h hA hv
  go_enter Tryz.func65, Tryz.ntmps65
  go_wp2
  go_loopw [12] (fun i wr => ∃ k : Nat, k ≤ n ∧ i = .int .i64 k ∧ Hid (∀ j, j < k → twiceP P j = false) ∧ Hid (wr.ownsMap Tryz.prog 24 unitElem (w.heap.size + 1) k (setP (H := Unit) (P.take k))) ∧ Hid (Below (w.heap.size + 1) ((w.alloc (.cells #[.int .i64 0, .int .i64 0] 35)).alloc (.map #[] 0)) wr ∧ w.heap.size + 2 ≤ wr.heap.size)) (fun i _ => n - (intOf i).toNat)
  case atStart =>
    refine ⟨0, by omega, rfl, (fun j hj => absurd hj (by omega)), ?_, ?_⟩
    · rw [List.take_zero, setP_nil]
      have := World.ownsMap_made (H := Unit) (w.alloc (.cells #[.int .i64 0, .int .i64 0] 35)) Tryz.prog 24 unitElem
      exact Lib.hid (by simpa using this)
    · exact Lib.hid ⟨Below.refl _ _, by simp⟩
  case round =>
    obtain ⟨k, hk, rfl, hq, hown, hb⟩ := hrel
    by_cases hlt : k < n
    · have hi0 : (0 : Int) ≤ (k : Int) := by omega
      have hi5 : (k : Int) < (n : Int) := by omega
      have hbw : Below (w.heap.size + 1) (w.alloc (.cells #[.int .i64 0, .int .i64 0] 35)) wr := ((Below.refl _ _).alloc (by simp) _).trans hb.out.1
      obtain ⟨b, off, rfl, e0, e1⟩ := ((HI.out.grew HA.out).later hbw (by simp)).at hlt
      obtain ⟨c, hc⟩ : ∃ c, c = P.getD k p0 := ⟨_, rfl⟩
      rw [← hc] at e0 e1
      have hvc : validP c = true := HV.out c (by rw [hc, List.getD_eq_getElem?_getD, List.getElem?_eq_getElem (by omega)]; exact List.getElem_mem _)
      have hkey : keyOf Tryz.prog 24 (.agg #[.int .i64 c.x, .int .i64 c.y]) = some (keyL c) := key_pt hvc
      have HK := Lib.hid hkey
      obtain ⟨q, hqe⟩ : ∃ q, q = twiceP P k := ⟨_, rfl⟩
      have hhas : Maps.has (setP (H := Unit) (P.take k)) (keyL c) = q := by
        rw [hqe, has_setP (fun v hv => HV.out v (List.mem_of_mem_take hv)) hvc, hc]
        rfl
      have HT : Hid (P.take (k + 1) = P.take k ++ [c]) := Lib.hid (by rw [hc]; exact take_more (d := p0) (by omega))
      have HH := Lib.hid hhas
      have HQ := Lib.hid hqe
      have HBW := Lib.hid hbw
      have q0 : (wr.alloc (.cells #[.int .i64 c.x, .int .i64 c.y] 24)).cell? ⟨wr.heap.size, 0, none⟩ = some (.int .i64 c.x) := cell_of_row _ _ _ _ _ _ (alloc_new _ _)
      have q1 : (wr.alloc (.cells #[.int .i64 c.x, .int .i64 c.y] 24)).cell? ⟨wr.heap.size, 1, none⟩ = some (.int .i64 c.y) := cell_of_row _ _ _ _ _ _ (alloc_new _ _)
      have HLT : Hid (w.heap.size + 1 < wr.heap.size) := Lib.hid (by have := hb.out.2; omega)
      clear hc hvc hkey hqe hhas hbw
      cases q with
      | true =>
        go_wp2_with (at_lookup; refine wpList_lookup_own_unit _ rfl _ _ 150 rfl 24 90 keyedPt Tryz.underlying150 (zeroUnit _) (w.heap.size + 1) k _ rfl (hown.out.alloc _) _ _ rfl HK.out ?_; rw [HH.out])
        refine (HB.out 191 k _).mono ?_
        rintro e w2 ⟨rfl, hg⟩
        unfold faultV
        obtain ⟨k0, k1, f0, f1, HG⟩ := fault_cellsB (((HBW.out.alloc (by have := HLT.out; omega) _).alloc (by have := HLT.out; simp; omega) _).trans (hg.1.mono (by have := HLT.out; simp; omega)))
        clear hg q0 q1
        go_wp2_with fail
        change bodyPost Tryz.prog Tryz.f65 (fun e w' => e = .returned (lookV (unlikeL P)) ∧ Below w.heap.size w w') .ret _ _
        refine look_endB rfl rfl rfl rfl HG rfl ?_
        have : unlikeL P = some (191, (k : Int)) := by
          unfold unlikeL
          rw [hl, firstP_some hlt HQ.out.symm hq.out]
          rfl
        rw [this]; rfl
      | false =>
        go_wp2_with (first
          | (at_lookup; refine wpList_lookup_own_unit _ rfl _ _ 150 rfl 24 90 keyedPt Tryz.underlying150 (zeroUnit _) (w.heap.size + 1) k _ rfl (hown.out.alloc _) _ _ rfl HK.out ?_; rw [HH.out])
          | (at_mapUpdate; refine wpList_mapUpdate_own _ rfl _ _ _ 150 rfl 24 90 keyedPt Tryz.underlying150 (unitElem (H := Unit)) (w.heap.size + 1) k _ rfl ((hown.out.alloc _).alloc _) (by unfold maxLen; omega) _ _ _ rfl rfl HK.out _ [] unitElem_mk ?_; intro w1 hown1 hgrow1; have HO1 := Lib.hid (And.intro hown1 hgrow1); clear hown1 hgrow1))
        go_roundw
        case rel =>
          refine ⟨k + 1, by omega, by go_num, Lib.hid fun j hj => ?_, Lib.hid ?_, Lib.hid ?_⟩
          · by_cases hik : j < k
            · exact hq.out j hik
            · obtain rfl : j = k := by omega
              exact HQ.out.symm
          · rw [HT.out, setP_snoc]
            exact HO1.out.1
          · have hs := HO1.out.2.size
            simp at hs
            have h3 : Below (w.heap.size + 1) wr w1 := (((Below.refl _ _).alloc (by have := HLT.out; omega) _).alloc (by have := HLT.out; simp; omega) _).grown HO1.out.2 (by have := HLT.out; simp; omega) (fun j hj => by cases hj; exact Nat.le_refl _)
            exact ⟨hb.out.1.trans h3, by have := hb.out.2; omega⟩
        case measure => simp [intOf]; omega
    · obtain rfl : k = n := by omega
      have hi5 : ¬ ((k : Int) < (k : Int)) := by omega
      have hbw : Below (w.heap.size + 1) (w.alloc (.cells #[.int .i64 0, .int .i64 0] 35)) wr := ((Below.refl _ _).alloc (by simp) _).trans hb.out.1
      obtain ⟨c0, c1, f0, f1, HG⟩ := fault_cellsB hbw
      clear hbw
      go_wp2_with fail
      refine look_endB rfl rfl rfl rfl HG rfl ?_
      have : unlikeL P = none := by unfold unlikeL; rw [hl, firstP_none hq.out]; rfl
      rw [this]; rfl
end Go.Proofs.YtjiiikeniocmfaaGreat
