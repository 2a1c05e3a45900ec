/- the document's answer: Check -/
import Derived.Test.YtbidappkmnedaaaJRef
namespace Go.Proofs.Ytbidappkmnedaaa
open Go.RowKit
set_option maxRecDepth 100000 in
set_option maxHeartbeats 4000000 in
theorem CheckR_any (ao : Option Addr) (n cap : Nat) (L : List Jur) (w : World) (h : IsJurs w ao n cap L) :
    Calls Try.prog 12 #[.slice ao n cap] w fun e w' => e = .returned (.tuple #[.int .i64 (checkP L).1, .int .i64 (checkP L).2]) ∧ Grew w w' := by
  have HS := Lib.hid h
  obtain ⟨hl, hnc, hcm, hc, h0⟩ := h
  unfold maxLen at hcm
  by_cases hbig : 64 < n
  · have hbi : (64 : Int) < (n : Int) := by omega
    rw [show checkP L = (3, 0) by unfold checkP; rw [hl, if_pos hbig]]
    clear hl hc HS
    go_enter Try.func12, Try.ntmps12
    go_wp2
    go_ret2
    exact ⟨rfl, Grew.refl _⟩
  · have hbi : ¬ (64 : Int) < (n : Int) := by omega
    obtain ⟨R, hR⟩ : ∃ R, R = checkP L := ⟨_, rfl⟩
    rw [← hR]
    have HR := Lib.hid hR
    have HL := Lib.hid hl
    clear hl hc hR
    go_enter Try.func12, Try.ntmps12
    go_wp2
    go_loopw [4] (fun i wr => ∃ k : Nat, k ≤ n ∧ i = .int .i64 k ∧ Hid (firstBad (rankP L) n 0 = firstBad (rankP L) (n - k) k) ∧ Hid (Grew w wr)) (fun i _ => n - (intOf i).toNat)
    case atStart => exact ⟨0, by omega, rfl, rfl, Grew.refl _⟩
    case round =>
      obtain ⟨k, hk, rfl, hch, hbl⟩ := hrel
      by_cases hlt : k < n
      · have hi0 : (0 : Int) ≤ (k : Int) := by omega
        have hi5 : (k : Int) < (n : Int) := by omega
        obtain ⟨b, off, rfl, hcs⟩ := (HS.out.grew hbl.out).2.2.2.1 (by omega)
        obtain ⟨c, hc⟩ : ∃ c, c = L.getD k j0 := ⟨_, rfl⟩
        have hk0 := hcs k hlt
        rw [← hc] at hk0
        obtain ⟨x0, x1, x2, x3, x4, x5, x6⟩ := c
        have e0 : wr.cell? ⟨b, off + k * 5, none⟩ = some (.int .i64 x0) := hk0 0 (by omega)
        have e1 : wr.cell? ⟨b, off + k * 5 + 1, none⟩ = some (.int .i64 x1) := hk0 1 (by omega)
        have e2 : wr.cell? ⟨b, off + k * 5 + 2, none⟩ = some (.int .i64 x2) := hk0 2 (by omega)
        have e3 : wr.cell? ⟨b, off + k * 5 + 3, none⟩ = some (.int .i64 x3) := hk0 3 (by omega)
        have e4 : wr.cell? ⟨b, off + k * 5 + 4, none⟩ = some (.slice x4 x5 x6) := hk0 4 (by omega)
        have HK := Lib.hid hcs
        have HCE := Lib.hid hc
        clear hcs hk0 hc
        by_cases ha : x0 < 1 ∨ 1099511627775 < x0
        · have hr : rankP L k = 5 := by unfold rankP; rw [← HCE.out, if_pos ha]
          have HB := Lib.hid (check_bad HL.out hbig (firstBad_bad hlt hch.out hr (by decide)) (by simp))
          rw [← HR.out] at HB
          clear hr
          by_cases a1 : x0 < 1
          · clear ha
            go_wp2_with fail
            go_ret2
            exact ⟨by rw [HB.out]; rfl, hbl.out⟩
          · have a2 : 1099511627775 < x0 := by omega
            clear ha
            go_wp2_with fail
            go_ret2
            exact ⟨by rw [HB.out]; rfl, hbl.out⟩
        · have a1 : ¬ x0 < 1 := by omega
          have a2 : ¬ 1099511627775 < x0 := by omega
          have hr : rankP L k = if 0 < k ∧ x0 ≤ (L.getD (k - 1) j0).id then 7 else if kindP x1 = true ∧ kindP x3 = true then 0 else 2 := by
            unfold rankP
            rw [← HCE.out, if_neg ha]
          have HRK := Lib.hid hr
          clear hr ha
          by_cases hk0 : k = 0
          · have hkz : ¬ (0 : Int) < (k : Int) := by omega
            have hkn : ¬ 0 < k := by omega
            clear hk0
            go_wp2_with fail
            go_region
            go_wp2_with fail
            have hr : rankP L k = if kindP x1 = true ∧ kindP x3 = true then 0 else 2 := by
              rw [HRK.out, if_neg (by rintro ⟨h, _⟩; exact hkn h)]
            have HRR := Lib.hid hr
            clear hr
            obtain ⟨p, hp⟩ : ∃ p, p = kindP x1 := ⟨_, rfl⟩
            obtain ⟨q, hq⟩ : ∃ q, q = kindP x3 := ⟨_, rfl⟩
            have hk1 : ∀ w', Calls Try.prog 31 #[.int .i64 x1] w' fun e w2 => e = .returned (.bool p) ∧ w' = w2 := by rw [hp]; exact kindR_any _
            have hk3 : ∀ w', Calls Try.prog 31 #[.int .i64 x3] w' fun e w2 => e = .returned (.bool q) ∧ w' = w2 := by rw [hq]; exact kindR_any _
            rw [← hp, ← hq] at HRR
            have HK1 := Lib.hid hk1
            have HK3 := Lib.hid hk3
            clear hp hq hk1 hk3
            cases p with
            | false =>
              have HB := Lib.hid (check_bad HL.out hbig (firstBad_bad hlt hch.out (r := 2) (by rw [HRR.out]; rfl) (by decide)) (by simp))
              rw [← HR.out] at HB
              go_wp2_with fail
              refine (HK1.out _).mono ?_
              rintro e w' ⟨rfl, rfl⟩
              go_wp2_with fail
              go_ret2
              exact ⟨by rw [HB.out]; rfl, hbl.out.drew⟩
            | true =>
              cases q with
              | false =>
                have HB := Lib.hid (check_bad HL.out hbig (firstBad_bad hlt hch.out (r := 2) (by rw [HRR.out]; rfl) (by decide)) (by simp))
                rw [← HR.out] at HB
                go_wp2_with fail
                refine (HK1.out _).mono ?_
                rintro e w' ⟨rfl, rfl⟩
                go_wp2_with fail
                refine (HK3.out _).mono ?_
                rintro e w' ⟨rfl, rfl⟩
                go_wp2_with fail
                go_ret2
                exact ⟨by rw [HB.out]; rfl, hbl.out.drew⟩
              | true =>
                go_wp2_with fail
                refine (HK1.out _).mono ?_
                rintro e w' ⟨rfl, rfl⟩
                go_wp2_with fail
                refine (HK3.out _).mono ?_
                rintro e w' ⟨rfl, rfl⟩
                go_wp2_with fail
                go_roundw
                case rel =>
                  exact ⟨k + 1, by omega, by go_num, firstBad_on hlt hch.out (by rw [HRR.out]; rfl), hbl.out.drew⟩
                case measure => simp [intOf]; omega
          · obtain ⟨m, hkm⟩ : ∃ m, k = m + 1 := ⟨k - 1, by omega⟩
            obtain ⟨d, hd⟩ : ∃ d, d = L.getD m j0 := ⟨_, rfl⟩
            have hm := HK.out m (by omega) 0 (by omega)
            rw [← hd] at hm
            have g0 : wr.cell? ⟨b, off + m * 5, none⟩ = some (.int .i64 d.id) := hm
            have hmw : IntKind.i64.wrap ((k : Int) - 1) = (m : Int) := by rw [show (k : Int) - 1 = (m : Int) by omega]; exact IntWalk.i64_in _ (by omega)
            have hm0 : (0 : Int) ≤ (m : Int) := by omega
            have hmn : (m : Int) < (n : Int) := by omega
            have hmp : (0 : Int) < (k : Int) := by omega
            have hkn : 0 < k := by omega
            have hrm : rankP L k = if x0 ≤ d.id then 7 else if kindP x1 = true ∧ kindP x3 = true then 0 else 2 := by
              rw [HRK.out, show k - 1 = m by omega, ← hd]
              by_cases hle : x0 ≤ d.id
              · rw [if_pos ⟨hkn, hle⟩, if_pos hle]
              · rw [if_neg (fun h => hle h.2), if_neg hle]
            have HRM := Lib.hid hrm
            clear hm hrm hkm hk0 hd HRK
            by_cases hle : x0 ≤ d.id
            · have HB := Lib.hid (check_bad HL.out hbig (firstBad_bad hlt hch.out (r := 7) (by rw [HRM.out, if_pos hle]) (by decide)) (by simp))
              rw [← HR.out] at HB
              go_wp2_with fail
              go_region
              go_wp2_with fail
              go_ret2
              exact ⟨by rw [HB.out]; rfl, hbl.out.drew⟩
            · have HRK := HRM
              go_wp2_with fail
              go_region
              go_wp2_with fail
              have hr : rankP L k = if kindP x1 = true ∧ kindP x3 = true then 0 else 2 := by
                rw [HRK.out, if_neg (by omega)]
              have HRR := Lib.hid hr
              clear hr
              obtain ⟨p, hp⟩ : ∃ p, p = kindP x1 := ⟨_, rfl⟩
              obtain ⟨q, hq⟩ : ∃ q, q = kindP x3 := ⟨_, rfl⟩
              have hk1 : ∀ w', Calls Try.prog 31 #[.int .i64 x1] w' fun e w2 => e = .returned (.bool p) ∧ w' = w2 := by rw [hp]; exact kindR_any _
              have hk3 : ∀ w', Calls Try.prog 31 #[.int .i64 x3] w' fun e w2 => e = .returned (.bool q) ∧ w' = w2 := by rw [hq]; exact kindR_any _
              rw [← hp, ← hq] at HRR
              have HK1 := Lib.hid hk1
              have HK3 := Lib.hid hk3
              clear hp hq hk1 hk3
              cases p with
              | false =>
                have HB := Lib.hid (check_bad HL.out hbig (firstBad_bad hlt hch.out (r := 2) (by rw [HRR.out]; rfl) (by decide)) (by simp))
                rw [← HR.out] at HB
                go_wp2_with fail
                refine (HK1.out _).mono ?_
                rintro e w' ⟨rfl, rfl⟩
                go_wp2_with fail
                go_ret2
                exact ⟨by rw [HB.out]; rfl, hbl.out.drew⟩
              | true =>
                cases q with
                | false =>
                  have HB := Lib.hid (check_bad HL.out hbig (firstBad_bad hlt hch.out (r := 2) (by rw [HRR.out]; rfl) (by decide)) (by simp))
                  rw [← HR.out] at HB
                  go_wp2_with fail
                  refine (HK1.out _).mono ?_
                  rintro e w' ⟨rfl, rfl⟩
                  go_wp2_with fail
                  refine (HK3.out _).mono ?_
                  rintro e w' ⟨rfl, rfl⟩
                  go_wp2_with fail
                  go_ret2
                  exact ⟨by rw [HB.out]; rfl, hbl.out.drew⟩
                | true =>
                  go_wp2_with fail
                  refine (HK1.out _).mono ?_
                  rintro e w' ⟨rfl, rfl⟩
                  go_wp2_with fail
                  refine (HK3.out _).mono ?_
                  rintro e w' ⟨rfl, rfl⟩
                  go_wp2_with fail
                  go_roundw
                  case rel =>
                    exact ⟨k + 1, by omega, by go_num, firstBad_on hlt hch.out (by rw [HRR.out]; rfl), hbl.out.drew⟩
                  case measure => simp [intOf]; omega
      · obtain rfl : k = n := by omega
        have HP := Lib.hid (check_par HL.out hbig (firstBad_end hch.out))
        rw [← HR.out] at HP
        go_wp2
        have HG0 := hbl
        generalize wr = wm at HG0 ⊢
        go_loopw [5] (fun i wr => ∃ m : Nat, m ≤ k ∧ i = .int .i64 m ∧ Hid (firstBad (par L) k 0 = firstBad (par L) (k - m) m) ∧ Hid (Grew w wr)) (fun i _ => k - (intOf i).toNat)
        case atStart => exact ⟨0, by omega, rfl, rfl, HG0.out⟩
        case round =>
          obtain ⟨m, hm, rfl, hch2, hbl2⟩ := hrel
          by_cases hlt2 : m < k
          · have hi0 : (0 : Int) ≤ (m : Int) := by omega
            have hi5 : (m : Int) < (k : Int) := by omega
            have HSM := Lib.hid (HS.out.grew hbl2.out)
            obtain ⟨b, off, rfl, hcs⟩ := HSM.out.2.2.2.1 (by omega)
            obtain ⟨c, hc⟩ : ∃ c, c = L.getD m j0 := ⟨_, rfl⟩
            have hk0 := hcs m hlt2
            rw [← hc] at hk0
            have HGA := Lib.hid ((Grew.refl wr).alloc (Obj.cells c.row 33))
            have hx := atR_any _ k cap L c.pa _ (HSM.out.grew HGA.out)
            have hcsA := hcs.later HGA.out.1 (hcs.lt (by omega))
            have HA1 := Lib.hid (cell_of_row _ _ 1 _ _ _ (alloc_new wr (Obj.cells c.row 33)))
            have hpr : par L m = parentP L c := by unfold par; rw [← hc]
            have HPR := Lib.hid hpr
            clear hcs hc hpr
            obtain ⟨x0, x1, x2, x3, x4, x5, x6⟩ := c
            have e0 : wr.cell? ⟨b, off + m * 5, none⟩ = some (.int .i64 x0) := hk0 0 (by omega)
            have e1 : wr.cell? ⟨b, off + m * 5 + 1, none⟩ = some (.int .i64 x1) := hk0 1 (by omega)
            have e2 : wr.cell? ⟨b, off + m * 5 + 2, none⟩ = some (.int .i64 x2) := hk0 2 (by omega)
            have e3 : wr.cell? ⟨b, off + m * 5 + 3, none⟩ = some (.int .i64 x3) := hk0 3 (by omega)
            have e4 : wr.cell? ⟨b, off + m * 5 + 4, none⟩ = some (.slice x4 x5 x6) := hk0 4 (by omega)
            have HX := Lib.hid hx
            unfold Jur.row at HX hcsA HA1 HGA
            dsimp only at HX hcsA HA1 HGA
            clear hk0 hx
            by_cases h2 : x2 = 0
            · subst h2
              by_cases h4 : x1 = 2
              · subst h4
                have HB := HP.out
                rw [firstBad_bad hlt2 hch2.out (show par L m = 9 by rw [HPR.out]; exact if_pos (.inr ⟨.inl rfl, rfl⟩)) (by decide)] at HB
                have HB2 := Lib.hid HB
                clear HB
                go_wp2_with fail
                go_ret2
                exact ⟨by rw [HB2.out]; rfl, (hbl2.out.trans HGA.out)⟩
              · have h4b : (x1 == 2) = false := by simpa using h4
                by_cases h5 : x1 = 3
                · subst h5
                  have HB := HP.out
                  rw [firstBad_bad hlt2 hch2.out (show par L m = 9 by rw [HPR.out]; exact if_pos (.inr ⟨.inr rfl, rfl⟩)) (by decide)] at HB
                  have HB2 := Lib.hid HB
                  clear HB
                  go_wp2_with fail
                  go_ret2
                  exact ⟨by rw [HB2.out]; rfl, (hbl2.out.trans HGA.out)⟩
                · have h5b : (x1 == 3) = false := by simpa using h5
                  have HE := Lib.hid (show parentP L ⟨x0, x1, 0, x3, x4, x5, x6⟩ = 0 by unfold parentP; dsimp only; rw [if_neg (by omega), if_pos rfl])
                  by_cases h1 : x1 = 1
                  · subst h1
                    go_wp2_with fail
                    go_roundw
                    case rel => exact ⟨m + 1, by omega, by go_num, firstBad_on hlt2 hch2.out (show par L m = 0 by rw [HPR.out]; exact HE.out), (hbl2.out.trans HGA.out)⟩
                    case measure => simp [intOf]; omega
                  · have h1b : (x1 == 1) = false := by simpa using h1
                    go_wp2_with fail
                    go_roundw
                    case rel => exact ⟨m + 1, by omega, by go_num, firstBad_on hlt2 hch2.out (show par L m = 0 by rw [HPR.out]; exact HE.out), (hbl2.out.trans HGA.out)⟩
                    case measure => simp [intOf]; omega
            · have h2b : (x2 == 0) = false := by simpa using h2
              by_cases h1 : x1 = 1
              · subst h1
                have HB := HP.out
                rw [firstBad_bad hlt2 hch2.out (show par L m = 9 by rw [HPR.out]; exact if_pos (.inl ⟨rfl, h2⟩)) (by decide)] at HB
                have HB2 := Lib.hid HB
                clear HB
                go_wp2_with fail
                go_ret2
                exact ⟨by rw [HB2.out]; rfl, (hbl2.out.trans HGA.out)⟩
              · have h1b : (x1 == 1) = false := by simpa using h1
                by_cases h4 : x1 = 2
                · subst h4
                  cases ha : atJ L x2 with
                  | none =>
                    have hp : placeJ L x2 = -1 := by unfold placeJ; rw [ha]
                    rw [hp] at HX
                    have HE := Lib.hid (show parentP L ⟨x0, 2, x2, x3, x4, x5, x6⟩ = 6 by unfold parentP; dsimp only; rw [if_neg (by omega), if_neg h2, ha])
                    clear ha hp
                    have HB := HP.out
                    rw [firstBad_bad hlt2 hch2.out (show par L m = 6 by rw [HPR.out]; exact HE.out) (by decide)] at HB
                    have HB2 := Lib.hid HB
                    clear HB
                    go_wp2_with fail
                    refine HX.out.mono ?_
                    rintro e w2 ⟨rfl, hb2⟩
                    go_wp2_with fail
                    go_ret2
                    exact ⟨by rw [HB2.out]; rfl, (hbl2.out.trans (HGA.out.trans hb2))⟩
                  | some t =>
                    have hp : placeJ L x2 = (t : Int) := by unfold placeJ; rw [ha]
                    rw [hp] at HX
                    have htl := (atJ_lt ha).1
                    rw [HL.out] at htl
                    obtain ⟨d, hd⟩ : ∃ d, d = L.getD t j0 := ⟨_, rfl⟩
                    have HE := Lib.hid (show parentP L ⟨x0, 2, x2, x3, x4, x5, x6⟩ = if 2 ≤ d.ki then 9 else 0 by unfold parentP; dsimp only; rw [if_neg (by omega), if_neg h2, ha, hd])
                    have HCE := Lib.hid hd
                    have ht0 : (0 : Int) ≤ (t : Int) := by omega
                    have ht1 : (t : Int) < (k : Int) := by omega
                    have ht2 : ¬ (t : Int) < 0 := by omega
                    clear ha hp hd
                    by_cases hge : 2 ≤ d.ki
                    · have HB := HP.out
                      rw [firstBad_bad hlt2 hch2.out (show par L m = 9 by rw [HPR.out]; exact HE.out.trans (if_pos hge)) (by decide)] at HB
                      have HB2 := Lib.hid HB
                      clear HB
                      go_wp2_with fail
                      refine HX.out.mono ?_
                      rintro e w2 ⟨rfl, hb2⟩
                      have hk9 := hcsA.later hb2.1 (hcsA.lt (by omega)) t htl
                      rw [← HCE.out] at hk9
                      have g1 : w2.cell? ⟨b, off + t * 5 + 1, none⟩ = some (.int .i64 d.ki) := hk9 1 (by omega)
                      have gx : w2.cell? ⟨wr.heap.size, 1, none⟩ = some (.int .i64 2) := hb2.cell HA1.out
                      clear hk9
                      go_wp2_with fail
                      go_region
                      go_wp2_with fail
                      go_ret2
                      exact ⟨by rw [HB2.out]; rfl, (hbl2.out.trans (HGA.out.trans hb2)).drew⟩
                    · have hgb : decide (2 ≤ d.ki) = false := decide_eq_false hge
                      go_wp2_with fail
                      refine HX.out.mono ?_
                      rintro e w2 ⟨rfl, hb2⟩
                      have hk9 := hcsA.later hb2.1 (hcsA.lt (by omega)) t htl
                      rw [← HCE.out] at hk9
                      have g1 : w2.cell? ⟨b, off + t * 5 + 1, none⟩ = some (.int .i64 d.ki) := hk9 1 (by omega)
                      have gx : w2.cell? ⟨wr.heap.size, 1, none⟩ = some (.int .i64 2) := hb2.cell HA1.out
                      clear hk9
                      go_wp2_with fail
                      go_region
                      go_wp2_with fail
                      go_roundw
                      case rel => exact ⟨m + 1, by omega, by go_num, firstBad_on hlt2 hch2.out (show par L m = 0 by rw [HPR.out]; exact HE.out.trans (if_neg (by omega))), (hbl2.out.trans (HGA.out.trans hb2)).drew⟩
                      case measure => simp [intOf]; omega
                · have h4b : (x1 == 2) = false := by simpa using h4
                  by_cases h5 : x1 = 3
                  · subst h5
                    cases ha : atJ L x2 with
                    | none =>
                      have hp : placeJ L x2 = -1 := by unfold placeJ; rw [ha]
                      rw [hp] at HX
                      have HE := Lib.hid (show parentP L ⟨x0, 3, x2, x3, x4, x5, x6⟩ = 6 by unfold parentP; dsimp only; rw [if_neg (by omega), if_neg h2, ha])
                      clear ha hp
                      have HB := HP.out
                      rw [firstBad_bad hlt2 hch2.out (show par L m = 6 by rw [HPR.out]; exact HE.out) (by decide)] at HB
                      have HB2 := Lib.hid HB
                      clear HB
                      go_wp2_with fail
                      refine HX.out.mono ?_
                      rintro e w2 ⟨rfl, hb2⟩
                      go_wp2_with fail
                      go_ret2
                      exact ⟨by rw [HB2.out]; rfl, (hbl2.out.trans (HGA.out.trans hb2))⟩
                    | some t =>
                      have hp : placeJ L x2 = (t : Int) := by unfold placeJ; rw [ha]
                      rw [hp] at HX
                      have htl := (atJ_lt ha).1
                      rw [HL.out] at htl
                      obtain ⟨d, hd⟩ : ∃ d, d = L.getD t j0 := ⟨_, rfl⟩
                      have HE := Lib.hid (show parentP L ⟨x0, 3, x2, x3, x4, x5, x6⟩ = if 3 ≤ d.ki then 9 else 0 by unfold parentP; dsimp only; rw [if_neg (by omega), if_neg h2, ha, hd])
                      have HCE := Lib.hid hd
                      have ht0 : (0 : Int) ≤ (t : Int) := by omega
                      have ht1 : (t : Int) < (k : Int) := by omega
                      have ht2 : ¬ (t : Int) < 0 := by omega
                      clear ha hp hd
                      by_cases hge : 3 ≤ d.ki
                      · have HB := HP.out
                        rw [firstBad_bad hlt2 hch2.out (show par L m = 9 by rw [HPR.out]; exact HE.out.trans (if_pos hge)) (by decide)] at HB
                        have HB2 := Lib.hid HB
                        clear HB
                        go_wp2_with fail
                        refine HX.out.mono ?_
                        rintro e w2 ⟨rfl, hb2⟩
                        have hk9 := hcsA.later hb2.1 (hcsA.lt (by omega)) t htl
                        rw [← HCE.out] at hk9
                        have g1 : w2.cell? ⟨b, off + t * 5 + 1, none⟩ = some (.int .i64 d.ki) := hk9 1 (by omega)
                        have gx : w2.cell? ⟨wr.heap.size, 1, none⟩ = some (.int .i64 3) := hb2.cell HA1.out
                        clear hk9
                        go_wp2_with fail
                        go_region
                        go_wp2_with fail
                        go_ret2
                        exact ⟨by rw [HB2.out]; rfl, (hbl2.out.trans (HGA.out.trans hb2)).drew⟩
                      · have hgb : decide (3 ≤ d.ki) = false := decide_eq_false hge
                        go_wp2_with fail
                        refine HX.out.mono ?_
                        rintro e w2 ⟨rfl, hb2⟩
                        have hk9 := hcsA.later hb2.1 (hcsA.lt (by omega)) t htl
                        rw [← HCE.out] at hk9
                        have g1 : w2.cell? ⟨b, off + t * 5 + 1, none⟩ = some (.int .i64 d.ki) := hk9 1 (by omega)
                        have gx : w2.cell? ⟨wr.heap.size, 1, none⟩ = some (.int .i64 3) := hb2.cell HA1.out
                        clear hk9
                        go_wp2_with fail
                        go_region
                        go_wp2_with fail
                        go_roundw
                        case rel => exact ⟨m + 1, by omega, by go_num, firstBad_on hlt2 hch2.out (show par L m = 0 by rw [HPR.out]; exact HE.out.trans (if_neg (by omega))), (hbl2.out.trans (HGA.out.trans hb2)).drew⟩
                        case measure => simp [intOf]; omega
                  · have h5b : (x1 == 3) = false := by simpa using h5
                    cases ha : atJ L x2 with
                    | none =>
                      have hp : placeJ L x2 = -1 := by unfold placeJ; rw [ha]
                      rw [hp] at HX
                      have HE := Lib.hid (show parentP L ⟨x0, x1, x2, x3, x4, x5, x6⟩ = 6 by unfold parentP; dsimp only; rw [if_neg (by omega), if_neg h2, ha])
                      clear ha hp
                      have HB := HP.out
                      rw [firstBad_bad hlt2 hch2.out (show par L m = 6 by rw [HPR.out]; exact HE.out) (by decide)] at HB
                      have HB2 := Lib.hid HB
                      clear HB
                      go_wp2_with fail
                      refine HX.out.mono ?_
                      rintro e w2 ⟨rfl, hb2⟩
                      go_wp2_with fail
                      go_ret2
                      exact ⟨by rw [HB2.out]; rfl, (hbl2.out.trans (HGA.out.trans hb2))⟩
                    | some t =>
                      have hp : placeJ L x2 = (t : Int) := by unfold placeJ; rw [ha]
                      rw [hp] at HX
                      have htl := (atJ_lt ha).1
                      rw [HL.out] at htl
                      obtain ⟨d, hd⟩ : ∃ d, d = L.getD t j0 := ⟨_, rfl⟩
                      have HE := Lib.hid (show parentP L ⟨x0, x1, x2, x3, x4, x5, x6⟩ = if x1 ≤ d.ki then 9 else 0 by unfold parentP; dsimp only; rw [if_neg (by omega), if_neg h2, ha, hd])
                      have HCE := Lib.hid hd
                      have ht0 : (0 : Int) ≤ (t : Int) := by omega
                      have ht1 : (t : Int) < (k : Int) := by omega
                      have ht2 : ¬ (t : Int) < 0 := by omega
                      clear ha hp hd
                      by_cases hge : x1 ≤ d.ki
                      · have HB := HP.out
                        rw [firstBad_bad hlt2 hch2.out (show par L m = 9 by rw [HPR.out]; exact HE.out.trans (if_pos hge)) (by decide)] at HB
                        have HB2 := Lib.hid HB
                        clear HB
                        go_wp2_with fail
                        refine HX.out.mono ?_
                        rintro e w2 ⟨rfl, hb2⟩
                        have hk9 := hcsA.later hb2.1 (hcsA.lt (by omega)) t htl
                        rw [← HCE.out] at hk9
                        have g1 : w2.cell? ⟨b, off + t * 5 + 1, none⟩ = some (.int .i64 d.ki) := hk9 1 (by omega)
                        have gx : w2.cell? ⟨wr.heap.size, 1, none⟩ = some (.int .i64 x1) := hb2.cell HA1.out
                        clear hk9
                        go_wp2_with fail
                        go_region
                        go_wp2_with fail
                        go_ret2
                        exact ⟨by rw [HB2.out]; rfl, (hbl2.out.trans (HGA.out.trans hb2)).drew⟩
                      · have hgb : decide (x1 ≤ d.ki) = false := decide_eq_false hge
                        go_wp2_with fail
                        refine HX.out.mono ?_
                        rintro e w2 ⟨rfl, hb2⟩
                        have hk9 := hcsA.later hb2.1 (hcsA.lt (by omega)) t htl
                        rw [← HCE.out] at hk9
                        have g1 : w2.cell? ⟨b, off + t * 5 + 1, none⟩ = some (.int .i64 d.ki) := hk9 1 (by omega)
                        have gx : w2.cell? ⟨wr.heap.size, 1, none⟩ = some (.int .i64 x1) := hb2.cell HA1.out
                        clear hk9
                        go_wp2_with fail
                        go_region
                        go_wp2_with fail
                        go_roundw
                        case rel => exact ⟨m + 1, by omega, by go_num, firstBad_on hlt2 hch2.out (show par L m = 0 by rw [HPR.out]; exact HE.out.trans (if_neg (by omega))), (hbl2.out.trans (HGA.out.trans hb2)).drew⟩
                        case measure => simp [intOf]; omega
          · obtain rfl : m = k := by omega
            have HB := HP.out
            rw [firstBad_end hch2.out] at HB
            have HB2 := Lib.hid HB
            clear HB
            go_wp2
            go_ret2
            exact ⟨by rw [HB2.out]; rfl, hbl2.out⟩
end Go.Proofs.Ytbidappkmnedaaa
