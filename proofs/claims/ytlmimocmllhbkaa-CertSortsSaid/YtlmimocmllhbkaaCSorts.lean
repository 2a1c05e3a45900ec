/- CertSorts' walk -/
import Derived.Test.YtlmimocmllhbkaaCRSort
namespace Go.Proofs.Ytlmimocmllhbkaa
open Go.RowKit
theorem own_shape {w : World} {base n cap : Nat} {ao : Option Addr} {S : List Crt} (h : OwnC w base (.slice ao n cap) S) (hn : 0 < n) : ∃ g, ao = some ⟨g, 0, none⟩ ∧ base ≤ g := by
  rcases h.2 with ⟨h1, h0⟩ | ⟨g, cap', cur, he, hb, _⟩
  · cases h1; omega
  · cases he; exact ⟨g, rfl, hb⟩
theorem heap_setCells_ne (g j : Nat) (h : j ≠ g) : ∀ (vs : List Value) (o : Nat) (u : World), (u.setCells g o vs).heap[j]? = u.heap[j]?
  | [], _, _ => rfl
  | v :: r, o, u => by rw [World.setCells, heap_setCells_ne g j h r (o + 1) _, Below.heap_setCell _ _ _ _ h]
theorem OwnC.other {w : World} {base : Nat} {v : Value} {L : List Crt} (h : OwnC w base v L) (g o : Nat) (vs : List Value) (hg : g < base) : OwnC (w.setCells g o vs) base v L :=
  ownsRow_move h fun g' hg' => heap_setCells_ne g g' (by have := (h.lt g' hg').1; omega) vs o w
set_option maxRecDepth 100000 in
set_option maxHeartbeats 4000000 in
theorem CertSorts_any (ao : Option Addr) (n cap : Nat) (L : List Crt) (cu : Int) (w : World) (h : IsCerts w ao n cap L) :
    Calls Try.prog 4 #[.slice ao n cap, .int .i64 cu] w fun e w' => e = .returned (.bool true) ∧ Below w.heap.size w w' := by
  have HI := Lib.hid h
  have hnc := h.2.1
  have hcm := h.2.2.1
  have HL : Hid (L.length = n) := Lib.hid h.1
  clear h
  unfold maxLen at hcm
  by_cases hbig : 200 < n
  · have hbi : (200 : Int) < (n : Int) := by omega
    go_enter Try.func4, Try.ntmps4
    go_wp2_with fail
    refine (awake_any _).mono ?_
    rintro e w1 ⟨rfl, hb1⟩
    go_wp2_with fail
    go_ret
    exact ⟨rfl, hb1⟩
  · have hbi : ¬ (200 : Int) < (n : Int) := by omega
    go_enter Try.func4, Try.ntmps4
    go_wp2_with (refine wpList_append_certs rfl _ _ rfl w.heap.size (.slice (some ⟨w.heap.size, 0, none⟩) 0 0) [] rfl (OwnC.none_new w _ (Nat.le_refl _)) ao n cap L rfl (HI.out.later ((Below.refl _ _).alloc (Nat.le_refl _) _) (Nat.le_refl _)) (by simp; omega) (by simp) ?_; intro v1 w1 hown1 hgr1)
    have hb1 : Below w.heap.size w w1 := below_of_grownBy ((Below.refl _ _).alloc (Nat.le_refl _) _) (OwnC.none_new w _ (Nat.le_refl _)) hgr1 (by simp)
    obtain ⟨ai, capi, hvi, hci⟩ := OwnC.certs (L := L) hown1
    subst hvi
    obtain ⟨B1, hB1⟩ : ∃ B1, w1.heap.size = B1 := ⟨_, rfl⟩
    rw [HL.out] at hci ⊢
    have HB1 := Lib.hid hb1
    have HCI := Lib.hid hci
    have HBE := Lib.hid hB1
    have HLI : Hid (IsCerts w1 ao n cap L) := Lib.hid (HI.out.later hb1 (Nat.le_refl _))
    clear hb1 hown1 hgr1 hci hB1
    go_wp2_with fail
    refine (Sort_any _ _ _ L _ HCI.out (by omega)).mono ?_
    rintro e w2 ⟨vx, M, rfl, hownx, hrisx, hmemx, hlenx, hb2⟩
    obtain ⟨ax, capx, hvx, hcx⟩ := hownx.certs
    subst hvx
    obtain ⟨mx, hmx⟩ : ∃ mx, M.length = mx := ⟨_, rfl⟩
    rw [hmx] at hownx hcx ⊢
    have HLx := Lib.hid hmx
    have HOX : Hid (OwnC w2 B1 (.slice ax mx capx) M) := Lib.hid (by rw [← HBE.out]; exact hownx)
    have HCX := Lib.hid hcx
    have HRX := Lib.hid hrisx
    have HMX := Lib.hid hmemx
    have HB2 : Hid (Below B1 w1 w2) := Lib.hid (by rw [← HBE.out]; exact hb2)
    have hmx200 : mx ≤ 200 := by have := HL.out; omega
    have hcxm := hcx.2.2.1
    have hcxn := hcx.2.1
    unfold maxLen at hcxm
    have hB12 : B1 ≤ w2.heap.size := by rw [← HBE.out]; exact hb2.size
    obtain ⟨B2, hB2⟩ : ∃ B2, w2.heap.size = B2 := ⟨_, rfl⟩
    have HBE2 := Lib.hid hB2
    have HB12 : Hid (B1 ≤ B2) := Lib.hid (by rw [← hB2]; exact hB12)
    clear hownx hrisx hmemx hlenx hb2 hcx hmx hB12 hB2
    go_wp2_with fail
    refine (Of_any _ _ _ L cu _ (HCI.out.later HB2.out (by rw [HBE.out]; exact Nat.le_refl _)) (by omega)).mono ?_
    rintro e w3 ⟨vy, rfl, howny, hb3⟩
    obtain ⟨Y, hY⟩ : ∃ Y, (L.filter fun c => decide (c.cu = cu)) = Y := ⟨_, rfl⟩
    rw [hY] at howny
    obtain ⟨ay, capy, hvy, hcy⟩ := howny.certs
    subst hvy
    obtain ⟨my, hmy⟩ : ∃ my, Y.length = my := ⟨_, rfl⟩
    rw [hmy] at howny hcy ⊢
    have HLy := Lib.hid hmy
    have HYE := Lib.hid hY
    have HOY : Hid (OwnC w3 B2 (.slice ay my capy) Y) := Lib.hid (by rw [← HBE2.out]; exact howny)
    have HCY := Lib.hid hcy
    have hmy200 : my ≤ 200 := by
      have h1 := List.length_filter_le (fun c : Crt => decide (c.cu = cu)) L
      rw [hY, hmy, HL.out] at h1
      omega
    have hcym := hcy.2.2.1
    have hcyn := hcy.2.1
    unfold maxLen at hcym
    have hb3' : Below B2 w2 w3 := by rw [← HBE2.out]; exact hb3
    have HB3 : Hid (Below B1 w1 w3) := Lib.hid (HB2.out.trans (hb3'.mono HB12.out))
    have HCX3 : Hid (IsCerts w3 ax mx capx M) := Lib.hid (HCX.out.later hb3 (Nat.le_refl _))
    have HOX3 : Hid (OwnC w3 B1 (.slice ax mx capx) M) := Lib.hid (HOX.out.later hb3)
    clear howny hb3 hb3' hcy hmy hY
    go_wp2_with fail
    refine (refSort_any _ _ _ L _ (HLI.out.later HB3.out (by rw [HBE.out]; exact Nat.le_refl _)) (by omega)).mono ?_
    rintro e w4 ⟨vr, M2, rfl, hownr, hrisr, hmemr, hb4⟩
    have hMM : M = M2 := rising_unique HRX.out hrisr (fun x => (HMX.out x).trans (hmemr x).symm)
    subst hMM
    obtain ⟨ar, capr, hvr, hcr⟩ := hownr.certs
    subst hvr
    rw [HLx.out] at hcr ⊢
    have HCR := Lib.hid hcr
    have HB4 : Hid (Below B1 w1 w4) := Lib.hid (HB3.out.trans (hb4.mono (by have := HB3.out.size; have := HBE.out; omega)))
    have HCX4 : Hid (IsCerts w4 ax mx capx M) := Lib.hid (HCX3.out.later hb4 (Nat.le_refl _))
    have HOX4 : Hid (OwnC w4 B1 (.slice ax mx capx) M) := Lib.hid (HOX3.out.later hb4)
    have HOY4 : Hid (OwnC w4 B2 (.slice ay my capy) Y) := Lib.hid (HOY.out.later hb4)
    have HCY4 : Hid (IsCerts w4 ay my capy Y) := Lib.hid (HCY.out.later hb4 (Nat.le_refl _))
    clear hownr hrisr hmemr hb4 hcr
    go_wp2_with fail
    refine (Same_any _ _ _ _ _ M _ HCX4.out HCR.out).mono ?_
    rintro e w5 ⟨rfl, hb5⟩
    have HB5 : Hid (Below B1 w1 w5) := Lib.hid (HB4.out.trans (hb5.mono (by have := HB4.out.size; have := HBE.out; omega)))
    have HOX5 : Hid (OwnC w5 B1 (.slice ax mx capx) M) := Lib.hid (HOX4.out.later hb5)
    have HOY5 : Hid (OwnC w5 B2 (.slice ay my capy) Y) := Lib.hid (HOY4.out.later hb5)
    have HCY5 : Hid (IsCerts w5 ay my capy Y) := Lib.hid (HCY4.out.later hb5 (Nat.le_refl _))
    clear hb5
    go_wp2_with fail
    refine (refOf_any _ _ _ L cu _ (HLI.out.later HB5.out (by rw [HBE.out]; exact Nat.le_refl _)) (by omega)).mono ?_
    rintro e w6 ⟨vo, rfl, howno, hb6⟩
    rw [HYE.out] at howno
    obtain ⟨aO, capo, hvo, hco⟩ := howno.certs
    subst hvo
    rw [HLy.out] at hco ⊢
    have HCO := Lib.hid hco
    have HB6 : Hid (Below B1 w1 w6) := Lib.hid (HB5.out.trans (hb6.mono (by have := HB5.out.size; have := HBE.out; omega)))
    have HOX6 : Hid (OwnC w6 B1 (.slice ax mx capx) M) := Lib.hid (HOX5.out.later hb6)
    have HOY6 : Hid (OwnC w6 B2 (.slice ay my capy) Y) := Lib.hid (HOY5.out.later hb6)
    have HCY6 : Hid (IsCerts w6 ay my capy Y) := Lib.hid (HCY5.out.later hb6 (Nat.le_refl _))
    clear howno hb6 hco
    go_wp2_with fail
    refine (Same_any _ _ _ _ _ Y _ HCY6.out HCO.out).mono ?_
    rintro e w7 ⟨rfl, hb7⟩
    have HBcur : Hid (Below B1 w1 w7) := Lib.hid (HB6.out.trans (hb7.mono (by have := HB6.out.size; have := HBE.out; omega)))
    have HOx : Hid (OwnC w7 B1 (.slice ax mx capx) M) := Lib.hid (HOX6.out.later hb7)
    have HOy7 : Hid (OwnC w7 B2 (.slice ay my capy) Y) := Lib.hid (HOY6.out.later hb7)
    have hgx : 0 < mx → ∃ g, ax = some ⟨g, 0, none⟩ ∧ g < B2 := fun hp => by
      obtain ⟨g, hg, _⟩ := own_shape HOX.out hp
      refine ⟨g, hg, ?_⟩
      rw [← HBE2.out]
      exact (HOX.out.lt g (by rw [hg]; rfl)).2
    have HGX := Lib.hid hgx
    clear hb7 hgx
    go_wp2_with fail
    go_loopw [9] (fun i wr => ∃ k S, k ≤ mx ∧ i = .int .i64 ((k : Nat) : Int) ∧ Hid (S.length = mx) ∧ Hid (OwnC wr B1 (.slice ax mx capx) S) ∧ Hid (Below B1 w1 wr) ∧ Hid (OwnC wr B2 (.slice ay my capy) Y)) (fun i _ => mx - (intOf i).toNat)
    case atStart => exact ⟨0, _, by omega, rfl, HLx, HOx, HBcur, HOy7⟩
    case round =>
      obtain ⟨k, S, hk, rfl, hSl, hSo, hbl, hOy⟩ := hrel
      by_cases hlt : k < mx
      · have hi0 : (0 : Int) ≤ (k : Int) := by omega
        have hi5 : (k : Int) < (mx : Int) := by omega
        obtain ⟨g, hg, hbg⟩ := own_shape hSo.out (by omega)
        subst hg
        have hat := hSo.out.certsAt
        rw [hSl.out] at hat
        obtain ⟨z, hz⟩ : ∃ z, z = S.getD k c0 := ⟨_, rfl⟩
        have hzc : ∀ j, j < 5 → wr.cell? ⟨g, k * 5 + j, none⟩ = some (.int .i64 (z.get j)) := fun j hj => by
          have := hat k hlt j hj
          rw [← hz, Nat.zero_add] at this
          exact this
        have z0 : wr.cell? ⟨g, k * 5, none⟩ = some (.int .i64 z.cu) := hzc 0 (by omega)
        have z1 : wr.cell? ⟨g, k * 5 + 1, none⟩ = some (.int .i64 z.ju) := hzc 1 (by omega)
        have z2 : wr.cell? ⟨g, k * 5 + 2, none⟩ = some (.int .i64 z.ca) := hzc 2 (by omega)
        have z3 : wr.cell? ⟨g, k * 5 + 3, none⟩ = some (.int .i64 z.fr) := hzc 3 (by omega)
        have z4 : wr.cell? ⟨g, k * 5 + 4, none⟩ = some (.int .i64 z.to) := hzc 4 (by omega)
        have y0 := hSo.out.notFrozen (k * 5)
        have y1 := hSo.out.notFrozen (k * 5 + 1)
        have y2 := hSo.out.notFrozen (k * 5 + 2)
        have y3 := hSo.out.notFrozen (k * 5 + 3)
        have y4 := hSo.out.notFrozen (k * 5 + 4)
        have HBG := Lib.hid hbg
        clear hat hzc hz hbg
        go_wp2_with fail
        go_roundw
        case rel =>
          refine ⟨k + 1, S.set k c0, by omega, by go_num, Lib.hid (by rw [List.length_set]; exact hSl.out), hSo.out.put k c0 (by rw [hSl.out]; exact hlt), below_setCells g (Nat.le_trans (Nat.le_refl _) HBG.out) c0.row.toList (k * 5) _ hbl.out, hOy.out.other g (k * 5) c0.row.toList (by obtain ⟨g2, e, h2⟩ := HGX.out (by omega); cases e; exact h2)⟩
        case measure => simp [intOf]; omega
      · obtain rfl : k = mx := by omega
        have HBcur2 := hbl
        have HOy := hOy
        go_wp2_with fail
        go_loopw [10] (fun i wr => ∃ k S, k ≤ my ∧ i = .int .i64 ((k : Nat) : Int) ∧ Hid (S.length = my) ∧ Hid (OwnC wr B2 (.slice ay my capy) S) ∧ Hid (Below B1 w1 wr)) (fun i _ => my - (intOf i).toNat)
        case atStart => exact ⟨0, _, by omega, rfl, HLy, HOy, HBcur2⟩
        case round =>
          obtain ⟨k, S, hk, rfl, hSl, hSo, hbl⟩ := hrel
          by_cases hlt : k < my
          · have hi0 : (0 : Int) ≤ (k : Int) := by omega
            have hi5 : (k : Int) < (my : Int) := by omega
            obtain ⟨g, hg, hbg⟩ := own_shape hSo.out (by omega)
            subst hg
            have hat := hSo.out.certsAt
            rw [hSl.out] at hat
            obtain ⟨z, hz⟩ : ∃ z, z = S.getD k c0 := ⟨_, rfl⟩
            have hzc : ∀ j, j < 5 → wr.cell? ⟨g, k * 5 + j, none⟩ = some (.int .i64 (z.get j)) := fun j hj => by
              have := hat k hlt j hj
              rw [← hz, Nat.zero_add] at this
              exact this
            have z0 : wr.cell? ⟨g, k * 5, none⟩ = some (.int .i64 z.cu) := hzc 0 (by omega)
            have z1 : wr.cell? ⟨g, k * 5 + 1, none⟩ = some (.int .i64 z.ju) := hzc 1 (by omega)
            have z2 : wr.cell? ⟨g, k * 5 + 2, none⟩ = some (.int .i64 z.ca) := hzc 2 (by omega)
            have z3 : wr.cell? ⟨g, k * 5 + 3, none⟩ = some (.int .i64 z.fr) := hzc 3 (by omega)
            have z4 : wr.cell? ⟨g, k * 5 + 4, none⟩ = some (.int .i64 z.to) := hzc 4 (by omega)
            have y0 := hSo.out.notFrozen (k * 5)
            have y1 := hSo.out.notFrozen (k * 5 + 1)
            have y2 := hSo.out.notFrozen (k * 5 + 2)
            have y3 := hSo.out.notFrozen (k * 5 + 3)
            have y4 := hSo.out.notFrozen (k * 5 + 4)
            have HBG := Lib.hid hbg
            clear hat hzc hz hbg
            go_wp2_with fail
            go_roundw
            case rel =>
              refine ⟨k + 1, S.set k c0, by omega, by go_num, Lib.hid (by rw [List.length_set]; exact hSl.out), hSo.out.put k c0 (by rw [hSl.out]; exact hlt), below_setCells g (Nat.le_trans HB12.out HBG.out) c0.row.toList (k * 5) _ hbl.out⟩
            case measure => simp [intOf]; omega
          · obtain rfl : k = my := by omega
            have hw1 : w1.heap.size ≤ B1 := by rw [HBE.out]; exact Nat.le_refl _
            have HE1 := Lib.hid (HCI.out.later hbl.out hw1)
            have HE2 := Lib.hid (HLI.out.later hbl.out hw1)
            clear hw1
            go_wp2_with fail
            refine (Same_any _ _ _ _ _ L _ HE1.out HE2.out).mono ?_
            rintro e w8 ⟨rfl, hb8⟩
            have HB8 : Hid (Below B1 w1 w8) := Lib.hid (hbl.out.trans (hb8.mono (by have := hbl.out.size; have := HBE.out; omega)))
            clear hb8
            go_wp2_with fail
            refine (awake_any _).mono ?_
            rintro e w9 ⟨rfl, hb9⟩
            have HB9 : Hid (Below B1 w1 w9) := Lib.hid (HB8.out.trans (hb9.mono (by have := HB8.out.size; have := HBE.out; omega)))
            clear hb9
            go_wp2_with fail
            go_ret
            refine ⟨rfl, HB1.out.trans (HB9.out.mono ?_)⟩
            rw [← HBE.out]
            exact HB1.out.size
end Go.Proofs.Ytlmimocmllhbkaa
