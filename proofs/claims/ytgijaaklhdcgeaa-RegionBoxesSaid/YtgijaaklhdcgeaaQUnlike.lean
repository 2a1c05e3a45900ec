/- ring.unlike -/
import Derived.Test.YtgijaaklhdcgeaaQKey
set_option linter.unusedSimpArgs false
set_option linter.unusedVariables false
namespace Go.Proofs.Ytgijaaklhdcgeaa
open Go.RowKit Go.Geo Go.Maps
attribute [local go_sem] Oper.semAt_some
def unlikeL (l : List Pt) : Option (Int × Int) := (firstP l.length (twiceP l)).map fun i => (191, (i : Int))
theorem zeroUnit (w : World) : (zeroValue 99).run Try.prog w = .ok (.agg #[]) w := by kernel_rfl
theorem setP_nil {H : Type} : setP (H := H) [] = .map [] := rfl
/-- as fault_cells, look_end: where nothing is said of draws. -/
theorem fault_cellsB {w w2 : World} (hg : Below (w.heap.size + 1) (w.alloc (.cells #[.int .i64 0, .int .i64 0] 32)) w2) : w2.cell? ⟨w.heap.size, 0, none⟩ = some (.int .i64 0) ∧ w2.cell? ⟨w.heap.size, 1, none⟩ = some (.int .i64 0) ∧ w2.frozen? ⟨w.heap.size, 0, none⟩ = false ∧ w2.frozen? ⟨w.heap.size, 1, none⟩ = false ∧ Hid (Below w.heap.size w w2 ∧ w2.heap[w.heap.size]? = some (.cells #[.int .i64 0, .int .i64 0] 32 (0, 0))) := by
  have hr := (hg.block w.heap.size (by simp)).trans (alloc_new _ _)
  exact ⟨cell_of_row _ _ _ _ _ _ hr, cell_of_row _ _ _ _ _ _ hr, frozen_of_row _ _ _ _ _ hr, frozen_of_row _ _ _ _ _ hr, Lib.hid ⟨((Below.refl _ w).alloc (Nat.le_refl _) _).trans (hg.mono (by simp)), hr⟩⟩
theorem look_endB {fn : Func} {p u : Tmp} {o : Option (Int × Int)} {w w2 w3 : World} {a : Act} {x y : Int} {bb : Bool} (h : fn.results = #[.cell p 32, .tmp u]) (hp : a.tmps.getD p undef = .pointer (some ⟨w.heap.size, 0, none⟩)) (hu : a.tmps.getD u undef = .bool bb) (hd : a.defers = [])
    (hr : Hid (Below w.heap.size w w2 ∧ w2.heap[w.heap.size]? = some (.cells #[.int .i64 0, .int .i64 0] 32 (0, 0)))) (hw : w3 = (w2.setCell ⟨w.heap.size, 0, none⟩ (.int .i64 x)).setCell ⟨w.heap.size, 1, none⟩ (.int .i64 y)) (ho : lookV o = .tuple #[faultV (x, y), .bool bb]) :
    bodyPost Try.prog fn (fun e w' => e = .returned (lookV o) ∧ Below w.heap.size w w') .ret a w3 := by
  subst hw
  refine bodyPost_ret (results_fault h hp (put_two hr.out.2 _ _)) hd ⟨?_, (hr.out.1.setCell (p := ⟨w.heap.size, 0, none⟩) (Nat.le_refl _) _).setCell (p := ⟨w.heap.size, 1, none⟩) (Nat.le_refl _) _⟩
  rw [ho, hu]
  rfl
set_option maxRecDepth 100000 in
set_option maxHeartbeats 1000000 in
theorem unlike_any (ao : Option Addr) (n cap : Nat) (P : List Pt) (w : World) (h : IsPts w ao n cap P) (hv : ∀ v ∈ P, validP v = true) :
    Calls Try.prog 57 #[.slice ao n cap] w fun e w' => e = .returned (lookV (unlikeL P)) ∧ Below w.heap.size w w' := by
  have HB := Lib.hid bad_any
  have HI := Lib.hid h
  have hl := h.1
  have hcm := h.2.2.1
  have hnc := h.2.1
  unfold maxLen at hcm
  have HV := Lib.hid hv
  have hA : Grew w (w.alloc (.cells #[.int .i64 0, .int .i64 0] 32)) := (Grew.refl _).alloc _
  have HA := Lib.hid hA
  have hmm := @run_makeMap Try.prog
  clear h hA hv
  go_enter Try.func57, Try.ntmps57
  go_wp2
  go_loopw [12] (fun i wr => ∃ k : Nat, k ≤ n ∧ i = .int .i64 k ∧ Hid (∀ j, j < k → twiceP P j = false) ∧ Hid (wr.ownsMap Try.prog 27 unitElem (w.heap.size + 1) k (setP (H := Unit) (P.take k))) ∧ Hid (Below (w.heap.size + 1) ((w.alloc (.cells #[.int .i64 0, .int .i64 0] 32)).alloc (.map #[] 0)) wr ∧ w.heap.size + 2 ≤ wr.heap.size)) (fun i _ => n - (intOf i).toNat)
  case atStart =>
    refine ⟨0, by omega, rfl, (fun j hj => absurd hj (by omega)), ?_, ?_⟩
    · rw [List.take_zero, setP_nil]
      have := World.ownsMap_made (H := Unit) (w.alloc (.cells #[.int .i64 0, .int .i64 0] 32)) Try.prog 27 unitElem
      exact Lib.hid (by simpa using this)
    · exact Lib.hid ⟨Below.refl _ _, by simp⟩
  case round =>
    obtain ⟨k, hk, rfl, hq, hown, hb⟩ := hrel
    by_cases hlt : k < n
    · have hi0 : (0 : Int) ≤ (k : Int) := by omega
      have hi5 : (k : Int) < (n : Int) := by omega
      have hbw : Below (w.heap.size + 1) (w.alloc (.cells #[.int .i64 0, .int .i64 0] 32)) wr := ((Below.refl _ _).alloc (by simp) _).trans hb.out.1
      obtain ⟨b, off, rfl, e0, e1⟩ := ((HI.out.grew HA.out).later hbw (by simp)).at hlt
      obtain ⟨c, hc⟩ : ∃ c, c = P.getD k p0 := ⟨_, rfl⟩
      rw [← hc] at e0 e1
      have hvc : validP c = true := HV.out c (by rw [hc, List.getD_eq_getElem?_getD, List.getElem?_eq_getElem (by omega)]; exact List.getElem_mem _)
      have hkey : keyOf Try.prog 27 (.agg #[.int .i64 c.x, .int .i64 c.y]) = some (keyL c) := key_pt hvc
      have HK := Lib.hid hkey
      obtain ⟨q, hqe⟩ : ∃ q, q = twiceP P k := ⟨_, rfl⟩
      have hhas : Maps.has (setP (H := Unit) (P.take k)) (keyL c) = q := by
        rw [hqe, has_setP (fun v hv => HV.out v (List.mem_of_mem_take hv)) hvc, hc]
        rfl
      have HT : Hid (P.take (k + 1) = P.take k ++ [c]) := Lib.hid (by rw [hc]; exact take_more (d := p0) (by omega))
      have HH := Lib.hid hhas
      have HQ := Lib.hid hqe
      have HBW := Lib.hid hbw
      have q0 : (wr.alloc (.cells #[.int .i64 c.x, .int .i64 c.y] 27)).cell? ⟨wr.heap.size, 0, none⟩ = some (.int .i64 c.x) := cell_of_row _ _ _ _ _ _ (alloc_new _ _)
      have q1 : (wr.alloc (.cells #[.int .i64 c.x, .int .i64 c.y] 27)).cell? ⟨wr.heap.size, 1, none⟩ = some (.int .i64 c.y) := cell_of_row _ _ _ _ _ _ (alloc_new _ _)
      have HLT : Hid (w.heap.size + 1 < wr.heap.size) := Lib.hid (by have := hb.out.2; omega)
      clear hc hvc hkey hqe hhas hbw
      cases q with
      | true =>
        go_wp2_with (at_lookup; refine wpList_lookup_own_unit _ rfl _ _ 98 rfl 27 99 keyedPt Try.underlying98 (zeroUnit _) (w.heap.size + 1) k _ rfl (hown.out.alloc _) _ _ rfl HK.out ?_; rw [HH.out])
        refine (HB.out 191 k _).mono ?_
        rintro e w2 ⟨rfl, hg⟩
        unfold faultV
        obtain ⟨k0, k1, f0, f1, HG⟩ := fault_cellsB (((HBW.out.alloc (by have := HLT.out; omega) _).alloc (by have := HLT.out; simp; omega) _).trans (hg.1.mono (by have := HLT.out; simp; omega)))
        clear hg q0 q1
        go_wp2_with fail
        change bodyPost Try.prog Try.f57 (fun e w' => e = .returned (lookV (unlikeL P)) ∧ Below w.heap.size w w') .ret _ _
        refine look_endB rfl rfl rfl rfl HG rfl ?_
        have : unlikeL P = some (191, (k : Int)) := by
          unfold unlikeL
          rw [hl, firstP_some hlt HQ.out.symm hq.out]
          rfl
        rw [this]; rfl
      | false =>
        go_wp2_with (first
          | (at_lookup; refine wpList_lookup_own_unit _ rfl _ _ 98 rfl 27 99 keyedPt Try.underlying98 (zeroUnit _) (w.heap.size + 1) k _ rfl (hown.out.alloc _) _ _ rfl HK.out ?_; rw [HH.out])
          | (at_mapUpdate; refine wpList_mapUpdate_own _ rfl _ _ _ 98 rfl 27 99 keyedPt Try.underlying98 (unitElem (H := Unit)) (w.heap.size + 1) k _ rfl ((hown.out.alloc _).alloc _) (by unfold maxLen; omega) _ _ _ rfl rfl HK.out _ [] unitElem_mk ?_; intro w1 hown1 hgrow1; have HO1 := Lib.hid (And.intro hown1 hgrow1); clear hown1 hgrow1))
        go_roundw
        case rel =>
          refine ⟨k + 1, by omega, by go_num, Lib.hid fun j hj => ?_, Lib.hid ?_, Lib.hid ?_⟩
          · by_cases hik : j < k
            · exact hq.out j hik
            · obtain rfl : j = k := by omega
              exact HQ.out.symm
          · rw [HT.out, setP_snoc]
            exact HO1.out.1
          · have hs := HO1.out.2.size
            simp at hs
            have h3 : Below (w.heap.size + 1) wr w1 := (((Below.refl _ _).alloc (by have := HLT.out; omega) _).alloc (by have := HLT.out; simp; omega) _).grown HO1.out.2 (by have := HLT.out; simp; omega) (fun j hj => by cases hj; exact Nat.le_refl _)
            exact ⟨hb.out.1.trans h3, by have := hb.out.2; omega⟩
        case measure => simp [intOf]; omega
    · obtain rfl : k = n := by omega
      have hi5 : ¬ ((k : Int) < (k : Int)) := by omega
      have hbw : Below (w.heap.size + 1) (w.alloc (.cells #[.int .i64 0, .int .i64 0] 32)) wr := ((Below.refl _ _).alloc (by simp) _).trans hb.out.1
      obtain ⟨c0, c1, f0, f1, HG⟩ := fault_cellsB hbw
      clear hbw
      go_wp2_with fail
      refine look_endB rfl rfl rfl rfl HG rfl ?_
      have : unlikeL P = none := by unfold unlikeL; rw [hl, firstP_none hq.out]; rfl
      rw [this]; rfl
end Go.Proofs.Ytgijaaklhdcgeaa
