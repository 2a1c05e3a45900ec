/- apportionkit.BigRegion -/
import Derived.Test.YtjiiikeniocmfaaGreatMSEdges
import Derived.Test.YtjiiikeniocmfaaGreatMSInts
set_option linter.unusedSimpArgs false
set_option linter.unusedVariables false
namespace Go.Proofs.YtjiiikeniocmfaaGreat
open Go.RowKit Go.Geo
attribute [local go_sem] Oper.semAt_some
def BigPost (R : List (List Pt)) (most : Nat) (w : World) (e : Ending) (w' : World) : Prop := ∃ q : Bool, e = .returned (.bool q) ∧ (q = false → R.length ≤ 22 ∧ sumLen R ≤ most) ∧ Below w.heap.size w w'
set_option maxRecDepth 100000 in
set_option maxHeartbeats 2000000 in
theorem BigRegion_any (ao : Option Addr) (n cap : Nat) (R : List (List Pt)) (most : Nat) (w : World) (h : IsRings w ao n cap R) (hk : Kept R) (hm : most ≤ 1000) :
    Calls Tryz.prog 34 #[.agg #[.slice ao n cap], .int .i64 (most : Int)] w (BigPost R most w) := by
  have HI := Lib.hid h
  have hcm := h.2.2.1
  have hnc := h.2.1
  have HL := Lib.hid h.1
  unfold maxLen at hcm
  have HK := Lib.hid hk
  obtain ⟨W, hW⟩ : ∃ W, W = w.alloc (.cells #[.slice ao n cap] 30) := ⟨_, rfl⟩
  have hA : Below w.heap.size w W := by rw [hW]; exact (Below.refl _ _).alloc (Nat.le_refl _) _
  have c0 : W.cell? ⟨w.heap.size, 0, none⟩ = some (.slice ao n cap) := by rw [hW]; exact alloc_cell _ _ _
  have HA := Lib.hid hA
  have HC := Lib.hid c0
  have hm9 : (most : Int) ≤ 1000 := by omega
  rw [hW] at c0
  clear h hk hA
  go_enter Tryz.func34, Tryz.ntmps34
  go_wp2_with fail
  rw [← hW]
  clear hW c0
  go_loopw [5, 6] (fun s i wr => ∃ k : Nat, k ≤ n ∧ i = .int .i64 k ∧ (∃ t : Nat, t ≤ 8796093024208 ∧ s = .int .i64 t ∧ Hid (t = sumLen (R.take k))) ∧ wr = W) (fun s i _ => n - (intOf i).toNat)
  case atStart => exact ⟨0, by omega, rfl, ⟨0, by omega, rfl, rfl⟩, rfl⟩
  case round =>
    obtain ⟨k, hk, rfl, ⟨t, htb, rfl, ht⟩, rfl⟩ := hrel
    have c0 := HC.out
    have ht0 : (0 : Int) ≤ (t : Int) := by omega
    by_cases hlt : k < n
    · have hi0 : (0 : Int) ≤ (k : Int) := by omega
      have hi5 : (k : Int) < (n : Int) := by omega
      by_cases hms : t ≤ most
      · have hms2 : (t : Int) ≤ (most : Int) := by omega
        obtain ⟨b, off, x, y, z, rfl, e0, hp⟩ := (HI.out.later HA.out (Nat.le_refl _)).2.2.2.2 k hlt
        have hy : y ≤ 8796093022208 := by rw [← hp.1]; exact HK.out k (by rw [HL.out]; exact hlt)
        have HT : Hid (t + y = sumLen (R.take (k + 1))) := Lib.hid (by rw [sumLen_take (by rw [HL.out]; exact hlt), ← ht.out, hp.1])
        clear hp ht
        go_wp2_with fail
        go_roundw
        case rel => exact ⟨k + 1, by omega, by go_num, ⟨t + y, by omega, by go_num, HT⟩, by first | trivial | rfl⟩
        case measure => simp [intOf]; omega
      · have hms2 : ¬ (t : Int) ≤ (most : Int) := by omega
        have hms3 : (most : Int) < (t : Int) := by omega
        by_cases h22 : 22 < n
        · have h3 : (22 : Int) < (n : Int) := by omega
          go_wp2_with fail
          go_ret
          exact ⟨true, rfl, (fun h => by cases h), HA.out⟩
        · have h3 : ¬ (22 : Int) < (n : Int) := by omega
          go_wp2_with fail
          go_ret
          exact ⟨true, rfl, (fun h => by cases h), HA.out⟩
    · have hkn : n = k := by omega
      subst hkn
      have hi5 : ¬ (n : Int) < (n : Int) := by omega
      by_cases h22 : 22 < n
      · have h3 : (22 : Int) < (n : Int) := by omega
        go_wp2_with fail
        go_ret
        exact ⟨true, rfl, (fun h => by cases h), HA.out⟩
      · have h3 : ¬ (22 : Int) < (n : Int) := by omega
        by_cases hms : t ≤ most
        · have hms2 : (t : Int) ≤ (most : Int) := by omega
          have hms3 : ¬ (most : Int) < (t : Int) := by omega
          have HS : Hid (R.length ≤ 22 ∧ sumLen R ≤ most) := Lib.hid (by
            have h5 := ht.out
            rw [List.take_of_length_le (by rw [HL.out]; exact Nat.le_refl _)] at h5
            exact ⟨by rw [HL.out]; omega, by omega⟩)
          clear ht
          go_wp2_with fail
          go_ret
          exact ⟨false, rfl, fun _ => HS.out, HA.out⟩
        · have hms2 : ¬ (t : Int) ≤ (most : Int) := by omega
          have hms3 : (most : Int) < (t : Int) := by omega
          go_wp2_with fail
          go_ret
          exact ⟨true, rfl, (fun h => by cases h), HA.out⟩
end Go.Proofs.YtjiiikeniocmfaaGreat

/- law14: Big -/
set_option linter.unusedSimpArgs false
set_option linter.unusedVariables false
namespace Go.Proofs.YtjiiikeniocmfaaGreat
open Go.RowKit Go.Geo
attribute [local go_sem] Oper.semAt_some
theorem IsRegs.at {w : World} {ao : Option Addr} {n cap : Nat} {G : List Reg} (h : IsRegs w ao n cap G) {k : Nat} (hk : k < n) : ∃ b off x y z, ao = some ⟨b, off, none⟩ ∧ w.cell? ⟨b, off + k, none⟩ = some (.slice x y z) ∧ IsRings w x y z (G.getD k []) := h.2.2.2.2 k hk
def LBig (G : List Reg) (w : World) (e : Ending) (w' : World) : Prop := ∃ q : Bool, e = .returned (.bool q) ∧ (q = false → G.length ≤ 70 ∧ ∀ i, i < G.length → (G.getD i []).length ≤ 22 ∧ sumLen (G.getD i []) ≤ 120) ∧ Below w.heap.size w w'
set_option maxRecDepth 100000 in
set_option maxHeartbeats 4000000 in
theorem Big_any (ao : Option Addr) (n cap : Nat) (G : List Reg) (w : World) (h : IsRegs w ao n cap G) (hk : ∀ i, i < G.length → Kept (G.getD i [])) :
    Calls Tryz.prog 18 #[.slice ao n cap] w (LBig G w) := by
  have HI := Lib.hid h
  have hcm := h.2.2.1
  have hnc := h.2.1
  have HL := Lib.hid h.1
  unfold maxLen at hcm
  have HK := Lib.hid hk
  clear h hk
  go_enter Tryz.func18, Tryz.ntmps18
  go_wp2_with fail
  go_loopw [3, 4, 5] (fun s i _ wr => ∃ k : Nat, k ≤ n ∧ k ≤ 71 ∧ i = .int .i64 k ∧ (∃ t : Nat, t ≤ 120 * k ∧ s = .int .i64 t) ∧ Hid (∀ j, j < k → (G.getD j []).length ≤ 22 ∧ sumLen (G.getD j []) ≤ 120) ∧ Hid (Below w.heap.size w wr)) (fun s i _ _ => n - (intOf i).toNat)
  case atStart => exact ⟨0, by omega, by omega, rfl, ⟨0, by omega, rfl⟩, Lib.hid (fun j hj => by omega), Below.refl _ _⟩
  case round =>
    obtain ⟨k, hk, hk71, rfl, ⟨t, htb, rfl⟩, hall, hB⟩ := hrel
    have hk0 : (0 : Int) ≤ (k : Int) := by omega
    by_cases hlt : k < n ∧ k < 71
    · obtain ⟨hlt, hlt7⟩ := hlt
      have hi5 : (k : Int) < (n : Int) := by omega
      have hi7 : (k : Int) < 71 := by omega
      obtain ⟨b, off, x, y, z, rfl, e0, hr⟩ := (HI.out.later hB.out (Nat.le_refl _)).at hlt
      have HR := Lib.hid hr
      have HBB := Lib.hid (BigRegion_any x y z (G.getD k []) 120 wr hr (HK.out k (by rw [HL.out]; exact hlt)) (by omega))
      have HYL := Lib.hid hr.1
      clear hr
      go_wp2_with fail
      refine HBB.out.mono ?_
      rintro e w2 ⟨q, rfl, hq, hb2⟩
      have HB2 := Lib.hid (hB.out.trans (hb2.mono hB.out.size))
      have HQ := Lib.hid hq
      have HR2 := Lib.hid (HR.out.later hb2 (Nat.le_refl _))
      have e0' := (hb2.cell (p := ⟨b, off + k, none⟩) (block_lt_of_cell e0)).trans e0
      clear e0 hb2 hq HBB HR
      cases q with
      | true =>
        go_wp2_with fail
        go_ret
        exact ⟨true, rfl, (fun h => by cases h), HB2.out⟩
      | false =>
        obtain ⟨h22, h120⟩ := HQ.out rfl
        have HS := Lib.hid (And.intro h22 h120)
        have hy22 : y ≤ 22 := by rw [← HYL.out]; exact h22
        clear h22 h120 hB
        go_wp2_with fail
        go_loopw [3, 5] (fun s j wr => ∃ m : Nat, m ≤ y ∧ j = .int .i64 m ∧ (∃ u : Nat, s = .int .i64 u ∧ u ≤ 120 * 71 + 120 ∧ Hid (u = t + sumLen ((G.getD k []).take m))) ∧ wr = w2) (fun _ j _ => y - (intOf j).toNat)
        case atStart => exact ⟨0, by omega, rfl, ⟨t, rfl, by omega, Lib.hid (by simp [sumLen])⟩, rfl⟩
        case round =>
          obtain ⟨m, hm, rfl, ⟨u, rfl, hub, hu⟩, rfl⟩ := hrel
          have hm0 : (0 : Int) ≤ (m : Int) := by omega
          by_cases hmy : m < y
          · have hm5 : (m : Int) < (y : Int) := by omega
            obtain ⟨b1, o1, x1, y1, z1, rfl, e1, hp⟩ := HR2.out.2.2.2.2 m hmy
            have hu2 : u + y1 = t + sumLen ((G.getD k []).take (m + 1)) := by
              rw [sumLen_take (by rw [HYL.out]; exact hmy), ← Nat.add_assoc, ← hu.out, hp.1]
            have hle : sumLen ((G.getD k []).take (m + 1)) ≤ sumLen (G.getD k []) := sumLen_take_le _ _
            have h120 := HS.out.2
            have huy : u + y1 ≤ 120 * 71 + 120 := by omega
            have HU := Lib.hid hu2
            clear hu2 hle h120 hp hu
            go_wp2_with fail
            go_roundw
            case rel => exact ⟨m + 1, by omega, by go_num, ⟨u + y1, by go_num, huy, HU⟩, by first | trivial | rfl⟩
            case measure => simp [intOf]; omega
          · have hmy2 : y = m := by omega
            subst hmy2
            have hm5 : ¬ (y : Int) < (y : Int) := by omega
            have hu3 : u ≤ 120 * (k + 1) := by
              have h1 := hu.out
              have h2 := sumLen_take_le (G.getD k []) y
              have h3 := HS.out.2
              omega
            clear hu
            go_wp2_with fail
            go_roundw
            case rel => exact ⟨k + 1, by omega, by omega, by go_num, ⟨u, hu3, rfl⟩, Lib.hid (fun j hj => by
              by_cases hjk : j = k
              · subst hjk; exact HS.out
              · exact hall.out j (by omega)), HB2⟩
            case measure => simp [intOf]; omega
    · have HE := Lib.hid hall.out
      by_cases h70 : 70 < n
      · have h7 : (70 : Int) < (n : Int) := by omega
        have hx : (¬ (k : Int) < (n : Int)) ∨ ((k : Int) < (n : Int) ∧ ¬ (k : Int) < 71) := by omega
        clear hlt
        rcases hx with hx | ⟨hx, hy⟩
        · go_wp2_with fail
          go_ret
          exact ⟨true, rfl, (fun h => by cases h), hB.out⟩
        · go_wp2_with fail
          go_ret
          exact ⟨true, rfl, (fun h => by cases h), hB.out⟩
      · have h7 : ¬ (70 : Int) < (n : Int) := by omega
        have hkn : n = k := by omega
        subst hkn
        have hx : ¬ (n : Int) < (n : Int) := by omega
        clear hlt
        have HN := Lib.hid (show n ≤ 70 by omega)
        have ht0 : (t : Int) ≤ 8520 := by omega
        by_cases h4 : 400 < t
        · have h5 : (400 : Int) < (t : Int) := by omega
          go_wp2_with fail
          go_ret
          exact ⟨true, rfl, (fun h => by cases h), hB.out⟩
        · have h5 : ¬ (400 : Int) < (t : Int) := by omega
          go_wp2_with fail
          go_ret
          exact ⟨false, rfl, fun _ => ⟨by rw [HL.out]; exact HN.out, fun i hi => HE.out i (by rw [HL.out] at hi; exact hi)⟩, hB.out⟩
end Go.Proofs.YtjiiikeniocmfaaGreat
