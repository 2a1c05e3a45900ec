/- region.size; region.Check's helpers: Check$1, IndexFunc, ContainsFunc over rings -/
import Derived.Test.YtgijaaklhdcgeaaQRMeet
set_option linter.unusedSimpArgs false
set_option linter.unusedVariables false
namespace Go.Proofs.Ytgijaaklhdcgeaa
open Go.RowKit Go.Geo
attribute [local go_sem] Oper.semAt_some
def sizeRP (n s : Nat) : Int := if 20 < n then 3 else if n = 0 then 2 else if 400 < s then 211 else 0
theorem sumLen_take_le (g : List (List Pt)) (k : Nat) : sumLen (g.take k) ≤ sumLen g := by
  have h := sumLen_append (g.take k) (g.drop k)
  rw [List.take_append_drop] at h
  omega
set_option maxRecDepth 100000 in
set_option maxHeartbeats 1000000 in
theorem size_region (ao : Option Addr) (n cap : Nat) (R : List (List Pt)) (w : World) (h : IsRings w ao n cap R) (hs : sumLen R ≤ 1000000000000) :
    Calls Try.prog 32 #[.agg #[.slice ao n cap]] w fun e w' => e = .returned (.int .i64 (sizeRP n (sumLen R))) ∧ Grew w w' := by
  have HI := Lib.hid h
  have HS := Lib.hid hs
  have hcm := h.2.2.1
  have hnc := h.2.1
  have HL := Lib.hid h.1
  unfold maxLen at hcm
  obtain ⟨z, hz⟩ : ∃ z, z = sizeRP n (sumLen R) := ⟨_, rfl⟩
  rw [← hz]
  have HZ := Lib.hid hz
  have hA : Grew w (w.alloc (.cells #[.slice ao n cap] 25)) := (Grew.refl _).alloc _
  have HA := Lib.hid hA
  have hc0 : (w.alloc (.cells #[.slice ao n cap] 25)).cell? ⟨w.heap.size, 0, none⟩ = some (.slice ao n cap) := alloc_cell _ _ _
  clear h hs hz hA
  go_enter Try.func32, Try.ntmps32
  go_wp2_with fail
  go_loopw [3, 9] (fun s i wr => ∃ k : Nat, k ≤ n ∧ i = .int .i64 k ∧ (∃ t : Nat, s = .int .i64 t ∧ Hid (t = sumLen (R.take k))) ∧ wr = w.alloc (.cells #[.slice ao n cap] 25)) (fun s i _ => n - (intOf i).toNat)
  case atStart => exact ⟨0, by omega, rfl, ⟨0, rfl, rfl⟩, rfl⟩
  case round =>
    obtain ⟨k, hk, rfl, ⟨t, rfl, ht⟩, rfl⟩ := hrel
    have htb : (t : Int) ≤ 1000000000000 := by have h1 := sumLen_take_le R k; have h2 := HS.out; have h3 := ht.out; omega
    have ht0 : (0 : Int) ≤ (t : Int) := by omega
    by_cases hlt : k < n
    · have hi0 : (0 : Int) ≤ (k : Int) := by omega
      have hi5 : (k : Int) < (n : Int) := by omega
      obtain ⟨b, off, x, y, z, rfl, e0, hp⟩ := (HI.out.later HA.out.1 (Nat.le_refl _)).2.2.2.2 k hlt
      have hy : (y : Int) ≤ 1000000000000 := by
        have h1 := hp.1
        have h2 := sumLen_get (g := R) (k := k) (by rw [HL.out]; exact hlt)
        have h3 := HS.out
        omega
      have hy0 : (0 : Int) ≤ (y : Int) := by omega
      have HT : Hid (t + y = sumLen (R.take (k + 1))) := Lib.hid (by rw [sumLen_take (by rw [HL.out]; exact hlt), ← ht.out, hp.1])
      clear hp
      go_wp2_with fail
      go_roundw
      case rel => exact ⟨k + 1, by omega, by go_num, ⟨t + y, by go_num, HT⟩, by first | trivial | rfl⟩
      case measure => simp [intOf]; omega
    · obtain rfl : n = k := by omega
      have hi5 : ¬ ((n : Int) < (n : Int)) := by omega
      have HT : Hid (t = sumLen R) := Lib.hid (by have := ht.out; rw [List.take_of_length_le (by rw [HL.out]; exact Nat.le_refl _)] at this; exact this)
      by_cases h1 : 20 < n
      · have t1 : decide ((20 : Int) < (n : Int)) = true := decide_eq_true (by omega)
        go_wp2_with fail
        go_ret
        exact ⟨by rw [HZ.out]; unfold sizeRP; rw [if_pos h1]; rfl, HA.out⟩
      · have t1 : decide ((20 : Int) < (n : Int)) = false := decide_eq_false (by omega)
        by_cases h2 : n = 0
        · have t2 : ((n : Int) == 0) = true := by simp; omega
          have HN : Hid (n = 0) := Lib.hid h2
          clear h2
          go_wp2_with fail
          go_ret
          exact ⟨by rw [HZ.out]; unfold sizeRP; rw [if_neg h1, if_pos HN.out]; rfl, HA.out⟩
        · have t2 : ((n : Int) == 0) = false := by simp; omega
          by_cases h3 : 400 < t
          · have t3 : decide ((400 : Int) < (t : Int)) = true := decide_eq_true (by omega)
            go_wp2_with fail
            go_ret
            exact ⟨by rw [HZ.out]; unfold sizeRP; rw [if_neg h1, if_neg h2, ← HT.out, if_pos h3]; rfl, HA.out⟩
          · have t3 : decide ((400 : Int) < (t : Int)) = false := decide_eq_false (by omega)
            go_wp2_with fail
            go_ret
            exact ⟨by rw [HZ.out]; unfold sizeRP; rw [if_neg h1, if_neg h2, ← HT.out, if_neg h3]; rfl, HA.out⟩
/-- a ring that may be. -/
def OkR (P : List Pt) : Prop := 3 ≤ P.length ∧ P.length ≤ 200 ∧ ∀ v ∈ P, validP v = true
theorem meet_ok (ao : Option Addr) (n cap : Nat) (P : List Pt) (bo : Option Addr) (m cap2 : Nat) (Q : List Pt) (w : World) (h : IsPts w ao n cap P) (h2 : IsPts w bo m cap2 Q) (hP : OkR P) (hQ : OkR Q) :
    Calls Try.prog 36 #[.slice ao n cap, .slice bo m cap2] w fun e w' => e = .returned (.bool (ringsMeet P Q)) ∧ Below w.heap.size w w' :=
  meet_any ao n cap P bo m cap2 Q w h h2 (by have := hP.2.1; have := h.1; omega) (by have := hQ.1; have := h2.1; omega) (by have := hQ.2.1; have := h2.1; omega) hP.2.2 hQ.2.2
set_option maxRecDepth 100000 in
theorem check1_any (B : Nat) (ao : Option Addr) (n cap : Nat) (P : List Pt) (bo : Option Addr) (m cap2 : Nat) (Q : List Pt) (w : World) (hB : w.cell? ⟨B, 0, none⟩ = some (.slice ao n cap)) (h : IsPts w ao n cap P) (h2 : IsPts w bo m cap2 Q) (hP : OkR P) (hQ : OkR Q) :
    Calls Try.prog 35 #[.slice bo m cap2, .pointer (some ⟨B, 0, none⟩)] w fun e w' => e = .returned (.bool (ringsMeet P Q)) ∧ Below w.heap.size w w' := by
  have HM := Lib.hid (meet_ok ao n cap P bo m cap2 Q w h h2 hP hQ)
  clear h h2 hP hQ
  go_enter Try.func35, Try.ntmps35
  go_wp2_with fail
  refine HM.out.mono ?_
  rintro e w1 ⟨rfl, hb1⟩
  have HB := Lib.hid hb1
  clear hb1
  go_wp2_with fail
  go_ret
  exact ⟨rfl, HB.out⟩
set_option maxRecDepth 100000 in
set_option maxHeartbeats 1000000 in
theorem IndexFnR_any (B : Nat) (ao : Option Addr) (n cap : Nat) (P : List Pt) (co : Option Addr) (m cap2 : Nat) (S : List (List Pt)) (w : World) (hB : w.cell? ⟨B, 0, none⟩ = some (.slice ao n cap)) (h : IsPts w ao n cap P) (h2 : IsRings w co m cap2 S) (hP : OkR P) (hS : ∀ r ∈ S, OkR r) :
    Calls Try.prog 60 #[.slice co m cap2, .func (.func 35) #[] #[.pointer (some ⟨B, 0, none⟩)]] w fun e w' => e = .returned (.int .i64 (firstZ m (fun i => ringsMeet P (S.getD i [])))) ∧ Below w.heap.size w w' := by
  have hcm := h2.2.2.1
  have hnc := h2.2.1
  unfold maxLen at hcm
  have HB := Lib.hid hB
  have HI := Lib.hid h
  have HJ := Lib.hid h2
  have HP := Lib.hid hP
  have HS := Lib.hid hS
  obtain ⟨z, hz⟩ : ∃ z, z = firstZ m (fun i => ringsMeet P (S.getD i [])) := ⟨_, rfl⟩
  rw [← hz]
  have HZ := Lib.hid hz
  have hen := enters_of Try.func35 (by kernel_rfl) rfl
  have HL := Lib.hid h2.1
  clear hB h h2 hP hS hz
  go_enter Try.func60, Try.ntmps60
  go_wp2_with fail
  go_loopw [8] (fun i wr => ∃ k : Nat, k ≤ m ∧ i = .int .i64 k ∧ Hid (∀ i, i < k → ringsMeet P (S.getD i []) = false) ∧ Hid (Below w.heap.size w wr)) (fun i _ => m - (intOf i).toNat)
  case atStart => exact ⟨0, by omega, rfl, fun i hi => absurd hi (by omega), Below.refl _ _⟩
  case round =>
    obtain ⟨k, hk, rfl, hall, hbl⟩ := hrel
    by_cases hlt : k < m
    · have hi0 : (0 : Int) ≤ (k : Int) := by omega
      have hi5 : (k : Int) < (m : Int) := by omega
      obtain ⟨b, off, x, y, z, rfl, e0, hp⟩ := (HJ.out.later hbl.out (Nat.le_refl _)).2.2.2.2 k hlt
      have hok : OkR (S.getD k []) := HS.out _ (by
        rw [List.getD_eq_getElem?_getD, List.getElem?_eq_getElem (by rw [HL.out]; exact hlt)]
        exact List.getElem_mem _)
      have HC := Lib.hid (check1_any B ao n cap P x y z (S.getD k []) wr ((hbl.out.cell (p := ⟨B, 0, none⟩) (block_lt_of_cell HB.out)).trans HB.out) (HI.out.later hbl.out (Nat.le_refl _)) hp HP.out hok)
      obtain ⟨p, hpe⟩ : ∃ p, p = ringsMeet P (S.getD k []) := ⟨_, rfl⟩
      rw [← hpe] at HC
      have HPE := Lib.hid hpe
      clear hpe hp hok
      cases p with
      | true =>
        go_wp2_with fail
        refine HC.out.mono ?_
        rintro e w1 ⟨rfl, hb1⟩
        have HB1 := Lib.hid hb1
        clear hb1
        go_wp2_with fail
        go_ret
        refine ⟨?_, hbl.out.trans (HB1.out.mono hbl.out.size)⟩
        rw [HZ.out]
        unfold firstZ
        rw [firstP_some hlt HPE.out.symm hall.out]
        rfl
      | false =>
        go_wp2_with fail
        refine HC.out.mono ?_
        rintro e w1 ⟨rfl, hb1⟩
        have HB1 := Lib.hid hb1
        clear hb1
        go_wp2_with fail
        go_roundw
        case rel =>
          refine ⟨k + 1, by omega, by go_num, fun i hi => ?_, hbl.out.trans (HB1.out.mono hbl.out.size)⟩
          by_cases hik : i < k
          · exact hall.out i hik
          · obtain rfl : i = k := by omega
            exact HPE.out.symm
        case measure => simp [intOf]; omega
    · obtain rfl : k = m := by omega
      go_wp2_with fail
      go_ret
      refine ⟨?_, hbl.out⟩
      rw [HZ.out]
      unfold firstZ
      rw [firstP_none hall.out]
      rfl
theorem firstZ_any {m : Nat} {f : Nat → Bool} : decide (0 ≤ firstZ m f) = (List.range m).any f := by
  unfold firstZ
  cases hf : firstP m f with
  | some i =>
    obtain ⟨h1, h2, _⟩ := firstP_eq_some hf
    rw [List.any_eq_true.2 ⟨i, List.mem_range.2 h1, h2⟩]
    exact decide_eq_true (by simp)
  | none =>
    have h := firstP_eq_none hf
    rw [List.any_eq_false.2 (fun i hi => by rw [h i (List.mem_range.1 hi)]; decide)]
    rfl
set_option maxRecDepth 100000 in
theorem ContainsR_any (B : Nat) (ao : Option Addr) (n cap : Nat) (P : List Pt) (co : Option Addr) (m cap2 : Nat) (S : List (List Pt)) (w : World) (hB : w.cell? ⟨B, 0, none⟩ = some (.slice ao n cap)) (h : IsPts w ao n cap P) (h2 : IsRings w co m cap2 S) (hP : OkR P) (hS : ∀ r ∈ S, OkR r) :
    Calls Try.prog 34 #[.slice co m cap2, .func (.func 35) #[] #[.pointer (some ⟨B, 0, none⟩)]] w fun e w' => e = .returned (.bool (S.any (ringsMeet P))) ∧ Below w.heap.size w w' := by
  have hv : S.any (ringsMeet P) = decide (0 ≤ firstZ m (fun i => ringsMeet P (S.getD i []))) := by
    rw [firstZ_any, Bool.eq_iff_iff, List.any_eq_true, List.any_eq_true]
    constructor
    · rintro ⟨r, hr, hm⟩
      obtain ⟨i, hi, rfl⟩ := List.mem_iff_getElem.1 hr
      refine ⟨i, List.mem_range.2 (by rw [← h2.1]; exact hi), ?_⟩
      rw [List.getD_eq_getElem?_getD, List.getElem?_eq_getElem hi]
      exact hm
    · rintro ⟨i, hi, hm⟩
      have hi := List.mem_range.1 hi
      rw [← h2.1] at hi
      rw [List.getD_eq_getElem?_getD, List.getElem?_eq_getElem hi] at hm
      exact ⟨_, List.getElem_mem hi, hm⟩
  have HX := Lib.hid (IndexFnR_any B ao n cap P co m cap2 S w hB h h2 hP hS)
  obtain ⟨z, hz⟩ : ∃ z, z = firstZ m (fun i => ringsMeet P (S.getD i [])) := ⟨_, rfl⟩
  rw [← hz] at HX hv
  rw [hv]
  clear hv hz hB h h2 hP hS
  by_cases h0 : 0 ≤ z
  · rw [decide_eq_true h0]
    have h1 : decide (0 ≤ z) = true := decide_eq_true h0
    clear h0
    go_enter Try.func34, Try.ntmps34
    go_wp2_with fail
    refine HX.out.mono ?_
    rintro e w1 ⟨rfl, hb1⟩
    have HB1 := Lib.hid hb1
    clear hb1
    go_wp2_with fail
    go_ret
    exact ⟨rfl, HB1.out⟩
  · rw [decide_eq_false h0]
    have h1 : decide (0 ≤ z) = false := decide_eq_false h0
    clear h0
    go_enter Try.func34, Try.ntmps34
    go_wp2_with fail
    refine HX.out.mono ?_
    rintro e w1 ⟨rfl, hb1⟩
    have HB1 := Lib.hid hb1
    clear hb1
    go_wp2_with fail
    go_ret
    exact ⟨rfl, HB1.out⟩
end Go.Proofs.Ytgijaaklhdcgeaa
