/- slices.Compact of certificates that the call owns: the walk -/
import Derived.Test.YtlmimocmllhbkaaCComp
namespace Go.Proofs.Ytlmimocmllhbkaa
open Go.RowKit
theorem OwnC.certsAt {w : World} {base g n cap : Nat} {L : List Crt} (h : OwnC w base (.slice (some ⟨g, 0, none⟩) n cap) L) : CertsAt w g 0 L.length L := by
  intro i hi
  obtain ⟨_, _, e, hcs⟩ := h.certs
  cases e
  obtain ⟨_, _, e, hat⟩ := hcs.2.2.2.1 (by omega)
  cases e
  exact hat i hi
theorem OwnC.notFrozen {w : World} {base g n cap : Nat} {L : List Crt} (h : OwnC w base (.slice (some ⟨g, 0, none⟩) n cap) L) (o : Nat) : w.frozen? ⟨g, o, none⟩ = false := by
  rcases h.2 with ⟨h1, _⟩ | ⟨g', cap', cur, he, _, hg, _⟩
  · cases h1
  · cases he
    exact frozen_of_row _ _ _ _ _ hg
set_option maxRecDepth 100000 in
set_option maxHeartbeats 2000000 in
theorem Compact_any (base : Nat) (v : Value) (L : List Crt) (w : World) (h : OwnC w base v L) (hn : L.length ≤ 100000) :
    Calls Try.prog 24 #[v] w fun e w' => ∃ v', e = .returned v' ∧ OwnC w' base v' (dedN L L.length) ∧ Below base w w' := by
  have hown := h
  by_cases h2 : L.length < 2
  · have hd : dedN L L.length = L := by
      match L, h2 with
      | [], _ => rfl
      | [c], _ => rfl
    rw [hd]
    obtain ⟨ao, cap, rfl, _⟩ := h.certs
    have h2i : ((L.length : Nat) : Int) < 2 := by omega
    have HO := Lib.hid hown
    clear h hown hd
    go_enter Try.func24, Try.ntmps24
    go_wp2
    go_ret
    exact ⟨_, rfl, HO.out, Below.refl _ _⟩
  · obtain ⟨g, cap, rfl, hbg⟩ : ∃ g cap, v = .slice (some ⟨g, 0, none⟩) L.length cap ∧ base ≤ g := by
      rcases h.2 with ⟨rfl, h0⟩ | ⟨g, cap, cur, rfl, hbg, _⟩
      · omega
      · exact ⟨g, cap, rfl, hbg⟩
    have hnc : L.length ≤ cap := by
      obtain ⟨_, _, e, hh⟩ := h.certs
      cases e; exact hh.2.1
    obtain ⟨n, hnn⟩ : ∃ n, L.length = n := ⟨_, rfl⟩
    rw [hnn] at h hown h2 hn hnc ⊢
    have h2i : ¬ ((n : Nat) : Int) < 2 := by omega
    have HO := Lib.hid hown
    have HL := Lib.hid hnn
    have HBG := Lib.hid hbg
    clear h hown hnn hbg
    go_enter Try.func24, Try.ntmps24
    go_wp2
    go_loopw [3] (fun i wr => ∃ k : Nat, 1 ≤ k ∧ k ≤ n ∧ i = .int .i64 k ∧ Hid (dedN L k = L.take k) ∧ Hid (OwnC wr base (.slice (some ⟨g, 0, none⟩) n cap) L) ∧ Hid (Below base w wr)) (fun i _ => n - (intOf i).toNat)
    case atStart =>
      refine ⟨1, by omega, by omega, rfl, ?_, HO.out, Below.refl _ _⟩
      have := HL.out
      match L, this with
      | [], e => simp at e; omega
      | c :: l, _ => rfl
    case round =>
      obtain ⟨k, hk1, hk, rfl, hded, hown, hbl⟩ := hrel
      by_cases hlt : k < n
      · have hi0 : (0 : Int) ≤ (k : Int) := by omega
        have hi5 : (k : Int) < (n : Int) := by omega
        obtain ⟨m, hm⟩ : ∃ m, k = m + 1 := ⟨k - 1, by omega⟩
        have hm0 : (0 : Int) ≤ (m : Int) := by omega
        have hm5 : (m : Int) < (n : Int) := by omega
        have hmn : m < n := by omega
        have hwk : IntKind.i64.wrap ((k : Int) - 1) = (m : Int) := by rw [show (k : Int) - 1 = (m : Int) by omega]; exact IntWalk.i64_in _ (by omega)
        have hat := hown.out.certsAt
        rw [HL.out] at hat
        obtain ⟨c, hc⟩ : ∃ c, c = L.getD k c0 := ⟨_, rfl⟩
        obtain ⟨d, hd⟩ : ∃ d, d = L.getD m c0 := ⟨_, rfl⟩
        have hkc := hat k hlt
        have hkd := hat m hmn
        rw [← hc] at hkc
        rw [← hd] at hkd
        simp only [Nat.zero_add] at hkc hkd
        have e0 : wr.cell? ⟨g, k * 5, none⟩ = some (.int .i64 c.cu) := hkc 0 (by omega)
        have e1 : wr.cell? ⟨g, k * 5 + 1, none⟩ = some (.int .i64 c.ju) := hkc 1 (by omega)
        have e2 : wr.cell? ⟨g, k * 5 + 2, none⟩ = some (.int .i64 c.ca) := hkc 2 (by omega)
        have e3 : wr.cell? ⟨g, k * 5 + 3, none⟩ = some (.int .i64 c.fr) := hkc 3 (by omega)
        have e4 : wr.cell? ⟨g, k * 5 + 4, none⟩ = some (.int .i64 c.to) := hkc 4 (by omega)
        have d0 : wr.cell? ⟨g, m * 5, none⟩ = some (.int .i64 d.cu) := hkd 0 (by omega)
        have d1 : wr.cell? ⟨g, m * 5 + 1, none⟩ = some (.int .i64 d.ju) := hkd 1 (by omega)
        have d2 : wr.cell? ⟨g, m * 5 + 2, none⟩ = some (.int .i64 d.ca) := hkd 2 (by omega)
        have d3 : wr.cell? ⟨g, m * 5 + 3, none⟩ = some (.int .i64 d.fr) := hkd 3 (by omega)
        have d4 : wr.cell? ⟨g, m * 5 + 4, none⟩ = some (.int .i64 d.to) := hkd 4 (by omega)
        obtain ⟨p, hp⟩ : ∃ p, p = eqC c d := ⟨_, rfl⟩
        have hql : ∀ w', (binOp .eql 30 (.agg #[.int .i64 c.cu, .int .i64 c.ju, .int .i64 c.ca, .int .i64 c.fr, .int .i64 c.to]) (.agg #[.int .i64 d.cu, .int .i64 d.ju, .int .i64 d.ca, .int .i64 d.fr, .int .i64 d.to])).run Try.prog w' = .ok (.bool p) w' := by
          rw [hp]; exact run_eql_cert c d
        have HP : Hid (p = eqC (L.getD k c0) (L.getD (k - 1) c0)) := by rw [hp, hc, hd, hm]; exact Lib.hid rfl
        have HM := Lib.hid hm
        have HC := Lib.hid hc
        clear hat hkc hkd hp hm hd hc
        cases p with
        | false =>
          go_wp2_with fail
          go_quiet (fail)
          go_wp2_with fail
          go_roundw
          case rel =>
            refine ⟨k + 1, by omega, by omega, by go_num, ?_, hown.out.later (below_drewN (Below.refl _ _) _), below_drewN hbl.out _⟩
            refine Lib.hid ?_
            rw [dedN_more hk1 HP.out.symm, take_more (by rw [HL.out]; exact hlt), hded.out]
          case measure => simp [intOf]; omega
        | true =>
          obtain ⟨r, hr⟩ : ∃ r, n - k = r := ⟨_, rfl⟩
          obtain ⟨rc, hrc⟩ : ∃ rc, cap - k = rc := ⟨_, rfl⟩
          have hsl := slice_fromC g n cap k hlt hnc
          rw [hr, hrc] at hsl
          have hkr : k + r = n := by omega
          have hr1 : 1 ≤ r := by omega
          have hr2 : r ≤ 100000 := by omega
          have hstart : Hid (L.take k = dedN L (k + 1)) := by
            have := dedN_same hk1 HP.out.symm
            exact Lib.hid (by rw [this, hded.out])
          have HSL := Lib.hid hsl
          have HKR := Lib.hid hkr
          clear hr hrc hsl hkr
          have hsl := HSL.out
          go_wp2_with fail
          go_quiet (fail)
          go_wp2
          clear hsl e0 e1 e2 e3 e4 d0 d1 d2 d3 d4 hwk hm0 hm5 hql
          have hownq := hown.out.later (below_drewN (Below.refl _ _) nq)
          have hblq := below_drewN hbl.out nq
          generalize wr.drewN nq = wq at hownq hblq ⊢
          have HOQ := Lib.hid hownq
          have HBQ := Lib.hid hblq
          clear hownq hblq
          go_loopw [3, 5] (fun i3 i5 wx => ∃ kk k2 S, 1 ≤ k2 ∧ k2 ≤ r ∧ 1 ≤ kk ∧ kk + 1 ≤ k + k2 ∧ i3 = .int .i64 ((kk : Nat) : Int) ∧ i5 = .int .i64 ((k2 : Nat) : Int) ∧ Hid (S.length = n) ∧ Hid (S.take kk = dedN L (k + k2)) ∧ Hid (∀ i, k + k2 ≤ i + 1 → i < n → S.getD i c0 = L.getD i c0) ∧ Hid (OwnC wx base (.slice (some ⟨g, 0, none⟩) n cap) S) ∧ Hid (Below base w wx))
            (fun _ i _ => r - (intOf i).toNat)
          case atStart => exact ⟨k, 1, L, by omega, hr1, hk1, by omega, rfl, rfl, HL, hstart, Lib.hid (fun i _ _ => rfl), HOQ, HBQ⟩
          case round =>
            obtain ⟨kk, k2, S, hk21, hk2r, hkk1, hkk, rfl, rfl, hSL, hSd, hSr, hownS, hblS⟩ := hrel
            have hkr := HKR.out
            have hkkn : kk < n := by omega
            have hatS := hownS.out.certsAt
            rw [hSL.out] at hatS
            have hfz := hownS.out.notFrozen
            have HFZ := Lib.hid hfz
            have HATS := Lib.hid hatS
            clear hatS hfz hkr
            by_cases hlt2 : k2 < r
            · have hx0 : (0 : Int) ≤ (k2 : Int) := by omega
              have hx5 : (k2 : Int) < (r : Int) := by omega
              obtain ⟨m2, hm2⟩ : ∃ m2, k2 = m2 + 1 := ⟨k2 - 1, by omega⟩
              have hy0 : (0 : Int) ≤ (m2 : Int) := by omega
              have hy5 : (m2 : Int) < (r : Int) := by omega
              have hmr : m2 < r := by omega
              have hwk2 : IntKind.i64.wrap ((k2 : Int) - 1) = (m2 : Int) := by rw [show (k2 : Int) - 1 = (m2 : Int) by omega]; exact IntWalk.i64_in _ (by omega)
              have hz0 : (0 : Int) ≤ (kk : Int) := by omega
              have hz5 : (kk : Int) < (n : Int) := by omega
              have hkr := HKR.out
              obtain ⟨x, hx⟩ : ∃ x, x = L.getD (k + k2) c0 := ⟨_, rfl⟩
              obtain ⟨y, hy⟩ : ∃ y, y = L.getD (k + m2) c0 := ⟨_, rfl⟩
              obtain ⟨z, hz⟩ : ∃ z, z = S.getD kk c0 := ⟨_, rfl⟩
              have hxc : ∀ j, j < 5 → wr.cell? ⟨g, k * 5 + k2 * 5 + j, none⟩ = some (.int .i64 (x.get j)) := fun j hj => by
                have := HATS.out (k + k2) (by omega) j hj
                rw [hSr.out (k + k2) (by omega) (by omega), ← hx, show 0 + (k + k2) * 5 + j = k * 5 + k2 * 5 + j by omega] at this
                exact this
              have hyc : ∀ j, j < 5 → wr.cell? ⟨g, k * 5 + m2 * 5 + j, none⟩ = some (.int .i64 (y.get j)) := fun j hj => by
                have := HATS.out (k + m2) (by omega) j hj
                rw [hSr.out (k + m2) (by omega) (by omega), ← hy, show 0 + (k + m2) * 5 + j = k * 5 + m2 * 5 + j by omega] at this
                exact this
              have hzc : ∀ j, j < 5 → wr.cell? ⟨g, kk * 5 + j, none⟩ = some (.int .i64 (z.get j)) := fun j hj => by
                have := HATS.out kk hkkn j hj
                rw [← hz, Nat.zero_add] at this
                exact this
              have e0 : wr.cell? ⟨g, k * 5 + k2 * 5, none⟩ = some (.int .i64 x.cu) := hxc 0 (by omega)
              have e1 : wr.cell? ⟨g, k * 5 + k2 * 5 + 1, none⟩ = some (.int .i64 x.ju) := hxc 1 (by omega)
              have e2 : wr.cell? ⟨g, k * 5 + k2 * 5 + 2, none⟩ = some (.int .i64 x.ca) := hxc 2 (by omega)
              have e3 : wr.cell? ⟨g, k * 5 + k2 * 5 + 3, none⟩ = some (.int .i64 x.fr) := hxc 3 (by omega)
              have e4 : wr.cell? ⟨g, k * 5 + k2 * 5 + 4, none⟩ = some (.int .i64 x.to) := hxc 4 (by omega)
              have d0 : wr.cell? ⟨g, k * 5 + m2 * 5, none⟩ = some (.int .i64 y.cu) := hyc 0 (by omega)
              have d1 : wr.cell? ⟨g, k * 5 + m2 * 5 + 1, none⟩ = some (.int .i64 y.ju) := hyc 1 (by omega)
              have d2 : wr.cell? ⟨g, k * 5 + m2 * 5 + 2, none⟩ = some (.int .i64 y.ca) := hyc 2 (by omega)
              have d3 : wr.cell? ⟨g, k * 5 + m2 * 5 + 3, none⟩ = some (.int .i64 y.fr) := hyc 3 (by omega)
              have d4 : wr.cell? ⟨g, k * 5 + m2 * 5 + 4, none⟩ = some (.int .i64 y.to) := hyc 4 (by omega)
              obtain ⟨p, hp⟩ : ∃ p, p = eqC x y := ⟨_, rfl⟩
              have hql : ∀ w', (binOp .neq 30 (.agg #[.int .i64 x.cu, .int .i64 x.ju, .int .i64 x.ca, .int .i64 x.fr, .int .i64 x.to]) (.agg #[.int .i64 y.cu, .int .i64 y.ju, .int .i64 y.ca, .int .i64 y.fr, .int .i64 y.to])).run Try.prog w' = .ok (.bool (!p)) w' := by
                rw [hp]; exact run_neq_cert x y
              have HP2 : Hid (p = eqC (L.getD (k + k2) c0) (L.getD (k + k2 - 1) c0)) := by rw [hp, hx, hy, show k + m2 = k + k2 - 1 by omega]; exact Lib.hid rfl
              have HX := Lib.hid hx
              have HM2 := Lib.hid hm2
              clear hxc hyc hp hx hy hz hm2 hkr
              cases p with
              | true =>
                clear hzc
                go_wp2_with fail
                go_quiet (fail)
                go_wp2_with fail
                go_roundw
                case rel =>
                  refine ⟨kk, k2 + 1, S, by omega, by omega, hkk1, by omega, rfl, by go_num, hSL, ?_, Lib.hid (fun i h1 h2 => hSr.out i (by omega) h2), hownS.out.later (below_drewN (Below.refl _ _) _), below_drewN hblS.out _⟩
                  refine Lib.hid ?_
                  rw [show k + (k2 + 1) = k + k2 + 1 by omega, dedN_same (by omega) HP2.out.symm, hSd.out]
                case measure => simp [intOf]; omega
              | false =>
                have z0 : wr.cell? ⟨g, kk * 5, none⟩ = some (.int .i64 z.cu) := hzc 0 (by omega)
                have z1 : wr.cell? ⟨g, kk * 5 + 1, none⟩ = some (.int .i64 z.ju) := hzc 1 (by omega)
                have z2 : wr.cell? ⟨g, kk * 5 + 2, none⟩ = some (.int .i64 z.ca) := hzc 2 (by omega)
                have z3 : wr.cell? ⟨g, kk * 5 + 3, none⟩ = some (.int .i64 z.fr) := hzc 3 (by omega)
                have z4 : wr.cell? ⟨g, kk * 5 + 4, none⟩ = some (.int .i64 z.to) := hzc 4 (by omega)
                have y0 := HFZ.out (kk * 5)
                have y1 := HFZ.out (kk * 5 + 1)
                have y2 := HFZ.out (kk * 5 + 2)
                have y3 := HFZ.out (kk * 5 + 3)
                have y4 := HFZ.out (kk * 5 + 4)
                clear hzc
                go_wp2_with fail
                go_quiet (fail)
                go_wp2_with fail
                go_roundw
                case rel =>
                  refine ⟨kk + 1, k2 + 1, S.set kk x, by omega, by omega, by omega, by omega, by go_num, by go_num, Lib.hid (by rw [List.length_set]; exact hSL.out), ?_, Lib.hid (fun i h1 h2 => ?_), (hownS.out.later (below_drewN (Below.refl _ _) _)).put kk x (by rw [hSL.out]; exact hkkn), below_setCells g HBG.out x.row.toList (kk * 5) _ (below_drewN hblS.out _)⟩
                  · refine Lib.hid ?_
                    rw [show k + (k2 + 1) = k + k2 + 1 by omega, dedN_more (by omega) HP2.out.symm, take_set_more (by rw [hSL.out]; exact hkkn), hSd.out, HX.out]
                  · rw [getD_set_ne (by omega), hSr.out i (by omega) h2]
                case measure => simp [intOf]; omega
            · obtain rfl : k2 = r := by omega
              have hz0 : (0 : Int) ≤ (kk : Int) := by omega
              have hz5 : (kk : Int) ≤ (n : Int) := by omega
              have hkr := HKR.out
              obtain ⟨rr, hrr⟩ : ∃ rr, n - kk = rr := ⟨_, rfl⟩
              obtain ⟨rd, hrd⟩ : ∃ rd, cap - kk = rd := ⟨_, rfl⟩
              have hs2 := slice_fromC g n cap kk hkkn hnc
              rw [hrr, hrd] at hs2
              have hs3 := slice_toC g n cap kk (by omega) hnc
              obtain ⟨vs, hvl, hcl⟩ := run_clear_cert wr g (kk * 5) rr rd (by omega) (fun j hj => by
                have := HATS.out (kk + j / 5) (by omega) (j % 5) (by omega)
                rw [show 0 + (kk + j / 5) * 5 + j % 5 = kk * 5 + j by omega] at this
                rw [this]; rfl) (fun j _ => HFZ.out _)
              have HVL : Hid (kk * 5 + vs.length ≤ n * 5) := by rw [hvl]; exact Lib.hid (by omega)
              have HKE : Hid (k + k2 = n) := Lib.hid hkr
              clear hvl hrr hrd hkr
              go_wp2
              go_ret
              refine ⟨_, rfl, ?_, below_setCells g HBG.out vs (kk * 5) _ hblS.out⟩
              have h1 := hownS.out.shortened kk (by rw [hSL.out]; omega) vs (by rw [hSL.out]; exact HVL.out)
              have h2 := hSd.out
              rw [HKE.out] at h2
              rw [h2] at h1
              exact h1
      · obtain rfl : k = n := by omega
        go_wp2
        go_ret
        refine ⟨_, rfl, ?_, hbl.out⟩
        have h1 := hown.out
        rw [hded.out, List.take_of_length_le (by rw [HL.out]; exact Nat.le_refl _)]
        exact h1
end Go.Proofs.Ytlmimocmllhbkaa
