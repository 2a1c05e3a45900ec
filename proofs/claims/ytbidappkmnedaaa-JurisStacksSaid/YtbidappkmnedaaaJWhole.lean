/- juris: Whole; SameInts -/
import Derived.Test.YtbidappkmnedaaaJCheck
import Derived.Test.YtbidappkmnedaaaJInts
namespace Go.Proofs.Ytbidappkmnedaaa
open Go.RowKit
/-- is a number there, with what it is a part of? -/
def wholeAt (L : List Jur) (ids : List Int) (x : Int) : Bool := match atJ L x with
  | none => false
  | some i => decide ((L.getD i j0).pa = 0) || ids.contains (L.getD i j0).pa
def wholeP (L : List Jur) (ids : List Int) : Bool := decide ((checkP L).1 = 0) && ids.all (wholeAt L ids)
theorem wholeP_bad {L : List Jur} {ids : List Int} {k : Nat} (hk : k < ids.length) (h : wholeAt L ids (ids.getD k 0) = false) : wholeP L ids = false := by
  unfold wholeP
  rw [Bool.and_eq_false_iff]
  right
  rw [List.all_eq_false]
  exact ⟨ids.getD k 0, by rw [List.getD_eq_getElem?_getD, List.getElem?_eq_getElem hk]; exact List.getElem_mem hk, by rw [h]; simp⟩
theorem wholeP_good {L : List Jur} {ids : List Int} (hc : (checkP L).1 = 0) (h : ∀ j, j < ids.length → wholeAt L ids (ids.getD j 0) = true) : wholeP L ids = true := by
  unfold wholeP
  rw [Bool.and_eq_true]
  refine ⟨by simpa using hc, ?_⟩
  rw [List.all_eq_true]
  intro x hx
  obtain ⟨i, hi, rfl⟩ := List.mem_iff_getElem.1 hx
  have := h i hi
  rwa [List.getD_eq_getElem?_getD, List.getElem?_eq_getElem hi] at this
set_option maxRecDepth 100000 in
set_option maxHeartbeats 2000000 in
theorem Whole_any (ao : Option Addr) (n cap : Nat) (L : List Jur) (bo : Option Addr) (m cap2 : Nat) (ids : List Int) (w : World) (h : IsJurs w ao n cap L) (h2 : IsInts w bo m cap2 ids) :
    Calls Try.prog 23 #[.slice ao n cap, .slice bo m cap2] w fun e w' => e = .returned (.bool (wholeP L ids)) ∧ Grew w w' := by
  obtain ⟨ce, hce⟩ : ∃ c, c = (checkP L).1 := ⟨_, rfl⟩
  obtain ⟨ci, hci⟩ : ∃ c, c = (checkP L).2 := ⟨_, rfl⟩
  have hck := Check_any ao n cap L w h
  rw [← hce, ← hci] at hck
  have HCK := Lib.hid hck
  have HCE := Lib.hid hce
  have HJ := Lib.hid h
  have HI := Lib.hid h2
  have HLI : Hid (ids.length = m) := h2.1
  have hmc := h2.2.1
  have hmm := h2.2.2.1
  unfold maxLen at hmm
  obtain ⟨r, hr⟩ : ∃ r, r = wholeP L ids := ⟨_, rfl⟩
  rw [← hr]
  have HR := Lib.hid hr
  by_cases hc0 : ce = 0
  · subst hc0
    clear h h2 hck hce hci hr
    go_enter Try.func23, Try.ntmps23
    go_wp2_with fail
    refine HCK.out.mono ?_
    rintro e w1 ⟨rfl, hg1⟩
    have HG1 := Lib.hid hg1
    clear hg1
    go_wp2_with fail
    go_loopw [20] (fun i wr => ∃ k : Nat, k ≤ m ∧ i = .int .i64 k ∧ Hid (∀ j, j < k → wholeAt L ids (ids.getD j 0) = true) ∧ Hid (Grew w wr)) (fun i _ => m - (intOf i).toNat)
    case atStart => exact ⟨0, by omega, rfl, fun j hj => absurd hj (by omega), HG1.out⟩
    case round =>
      obtain ⟨k, hk, rfl, hall, hgr⟩ := hrel
      by_cases hlt : k < m
      · have hi0 : (0 : Int) ≤ (k : Int) := by omega
        have hi1 : (k : Int) < (m : Int) := by omega
        obtain ⟨b, off, rfl, hcs⟩ := (HI.out.grew hgr.out).2.2.2.1 (by omega)
        have hc := hcs k hlt
        obtain ⟨x, hx⟩ : ∃ x, x = ids.getD k 0 := ⟨_, rfl⟩
        rw [← hx] at hc
        have hfa := Find_any ao n cap L x wr (HJ.out.grew hgr.out)
        have hbad : wholeAt L ids x = false → r = false := fun h => by rw [HR.out]; exact wholeP_bad (k := k) (by rw [HLI.out]; exact hlt) (by rw [← hx]; exact h)
        have hgood : wholeAt L ids x = true → ∀ j, j < k + 1 → wholeAt L ids (ids.getD j 0) = true := fun h j hj => by
          by_cases hjk : j < k
          · exact hall.out j hjk
          · obtain rfl : j = k := by omega
            rw [← hx]; exact h
        have HBAD := Lib.hid hbad
        have HGOOD := Lib.hid hgood
        clear hcs hx hbad hgood
        cases ha : atJ L x with
        | none =>
          have hf : findP L x = (j0, false) := by unfold findP; rw [ha]
          have hw : wholeAt L ids x = false := by unfold wholeAt; rw [ha]
          rw [hf] at hfa
          unfold j0 Jur.val Jur.row at hfa
          dsimp only at hfa
          have HF := Lib.hid hfa
          have HW := Lib.hid hw
          clear hf hw hfa ha
          go_wp2_with fail
          refine HF.out.mono ?_
          rintro e w2 ⟨rfl, hg2⟩
          go_wp2_with fail
          go_ret
          exact ⟨by rw [HBAD.out HW.out]; rfl, (hgr.out.trans hg2).alloc _⟩
        | some i =>
          obtain ⟨c, hcc⟩ : ∃ c, c = L.getD i j0 := ⟨_, rfl⟩
          have hf : findP L x = (c, true) := by unfold findP; rw [ha, hcc]
          have hw : wholeAt L ids x = (decide (c.pa = 0) || ids.contains c.pa) := by unfold wholeAt; rw [ha, hcc]
          rw [hf] at hfa
          obtain ⟨d1, d2, d3, d4, d5, d6, d7⟩ := c
          dsimp only at hw
          unfold Jur.val Jur.row at hfa
          dsimp only at hfa
          have HF := Lib.hid hfa
          have HW := Lib.hid hw
          clear hf hw hfa ha hcc
          by_cases hp : d3 = 0
          · subst hp
            have hwt : wholeAt L ids x = true := by rw [HW.out]; simp
            have HT := Lib.hid (HGOOD.out hwt)
            clear hwt
            go_wp2_with fail
            refine HF.out.mono ?_
            rintro e w2 ⟨rfl, hg2⟩
            go_wp2_with fail
            go_roundw
            case rel => exact ⟨k + 1, by omega, by go_num, HT.out, (hgr.out.trans hg2).alloc _⟩
            case measure => simp [intOf]; omega
          · have hp1 : (d3 == 0) = false := by simpa using hp
            have hp2 : (d3 != 0) = true := by simpa using hp
            obtain ⟨q, hq⟩ : ∃ q, q = ids.contains d3 := ⟨_, rfl⟩
            have hwt : wholeAt L ids x = q := by rw [HW.out, hq]; simp [hp]
            have hcn : ∀ w', Grew w w' → Calls Try.prog 43 #[.slice (some ⟨b, off, none⟩) m cap2, .int .i64 d3] w' fun e w2 => e = .returned (.bool q) ∧ w2 = w' := fun w' hg => by rw [hq]; exact Contains_any _ m cap2 ids d3 w' (HI.out.grew hg)
            have HCN := Lib.hid hcn
            have HWT := Lib.hid hwt
            clear hp hq hwt hcn
            cases q with
            | true =>
              have HT := Lib.hid (HGOOD.out HWT.out)
              go_wp2_with fail
              refine HF.out.mono ?_
              rintro e w2 ⟨rfl, hg2⟩
              have HG2 := Lib.hid ((hgr.out.trans hg2).alloc (Obj.cells #[.int .i64 d1, .int .i64 d2, .int .i64 d3, .int .i64 d4, .slice d5 d6 d7] 33))
              clear hg2
              go_wp2_with fail
              refine (HCN.out _ HG2.out).mono ?_
              rintro e w3 ⟨rfl, rfl⟩
              go_wp2_with fail
              go_roundw
              case rel => exact ⟨k + 1, by omega, by go_num, HT.out, HG2.out⟩
              case measure => simp [intOf]; omega
            | false =>
              go_wp2_with fail
              refine HF.out.mono ?_
              rintro e w2 ⟨rfl, hg2⟩
              have HG2 := Lib.hid ((hgr.out.trans hg2).alloc (Obj.cells #[.int .i64 d1, .int .i64 d2, .int .i64 d3, .int .i64 d4, .slice d5 d6 d7] 33))
              clear hg2
              go_wp2_with fail
              refine (HCN.out _ HG2.out).mono ?_
              rintro e w3 ⟨rfl, rfl⟩
              go_wp2_with fail
              go_ret
              exact ⟨by rw [HBAD.out HWT.out]; rfl, HG2.out⟩
      · obtain rfl : k = m := by omega
        have ht : r = true := by rw [HR.out]; exact wholeP_good HCE.out.symm (fun j hj => hall.out j (by rw [← HLI.out]; exact hj))
        have HT := Lib.hid ht
        clear ht
        go_wp2_with fail
        go_ret
        exact ⟨by rw [HT.out]; rfl, hgr.out⟩
  · have hcb : (ce == 0) = false := by simpa using hc0
    have hcn : (ce != 0) = true := by simpa using hc0
    have hrf : r = false := by rw [hr]; unfold wholeP; rw [← hce]; simp [hc0]
    have HRF := Lib.hid hrf
    clear h h2 hck hce hci hc0 hr hrf
    go_enter Try.func23, Try.ntmps23
    go_wp2_with fail
    refine HCK.out.mono ?_
    rintro e w1 ⟨rfl, hg1⟩
    go_wp2_with fail
    go_ret
    exact ⟨by rw [HRF.out]; rfl, hg1⟩
end Go.Proofs.Ytbidappkmnedaaa
