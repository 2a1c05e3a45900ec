/- juris: Check -/
import Derived.Test.YtbidappkmnedaaaJParent
namespace Go.Proofs.Ytbidappkmnedaaa
open Go.RowKit
/-- what is wrong with jurisdiction i by itself. -/
def rankP (L : List Jur) (i : Nat) : Int :=
  if (L.getD i j0).id < 1 ∨ 1099511627775 < (L.getD i j0).id then 5
  else if 0 < i ∧ (L.getD i j0).id ≤ (L.getD (i - 1) j0).id then 7
  else if kindP (L.getD i j0).ki = true ∧ kindP (L.getD i j0).fi = true then 0 else 2
/-- the first that is wrong. -/
def firstBad (g : Nat → Int) : Nat → Nat → Int × Int
  | 0, _ => (0, 0)
  | f + 1, i => if g i = 0 then firstBad g f (i + 1) else (g i, (i : Int))
def par (L : List Jur) (i : Nat) : Int := parentP L (L.getD i j0)
def checkP (L : List Jur) : Int × Int :=
  if 64 < L.length then (3, 0) else if (firstBad (rankP L) L.length 0).1 = 0 then firstBad (par L) L.length 0 else firstBad (rankP L) L.length 0
theorem firstBad_bad {g : Nat → Int} {n k : Nat} {r : Int} (hk : k < n) (h : firstBad g n 0 = firstBad g (n - k) k) (hr : g k = r) (h0 : r ≠ 0) : firstBad g n 0 = (r, (k : Int)) := by
  rw [show n - k = (n - (k + 1)) + 1 by omega, firstBad, if_neg (by rw [hr]; exact h0), hr] at h
  exact h
theorem firstBad_on {g : Nat → Int} {n k : Nat} (hk : k < n) (h : firstBad g n 0 = firstBad g (n - k) k) (hr : g k = 0) : firstBad g n 0 = firstBad g (n - (k + 1)) (k + 1) := by
  rw [show n - k = (n - (k + 1)) + 1 by omega, firstBad, if_pos hr] at h
  exact h
theorem firstBad_end {g : Nat → Int} {n : Nat} (h : firstBad g n 0 = firstBad g (n - n) n) : firstBad g n 0 = (0, 0) := by
  rw [h, Nat.sub_self]; rfl
theorem check_bad {L : List Jur} {n : Nat} {r : Int × Int} (hl : L.length = n) (hb : ¬ 64 < n) (h : firstBad (rankP L) n 0 = r) (hr : r.1 ≠ 0) : checkP L = r := by
  unfold checkP
  rw [hl, if_neg hb, h, if_neg hr]
theorem check_par {L : List Jur} {n : Nat} (hl : L.length = n) (hb : ¬ 64 < n) (h : firstBad (rankP L) n 0 = (0, 0)) : checkP L = firstBad (par L) n 0 := by
  unfold checkP
  rw [hl, if_neg hb, h, if_pos rfl]
set_option maxRecDepth 100000 in
set_option maxHeartbeats 2000000 in
theorem Check_any (ao : Option Addr) (n cap : Nat) (L : List Jur) (w : World) (h : IsJurs w ao n cap L) :
    Calls Try.prog 11 #[.slice ao n cap] w fun e w' => e = .returned (.tuple #[.int .i64 (checkP L).1, .int .i64 (checkP L).2]) ∧ Grew w w' := by
  have HS := Lib.hid h
  obtain ⟨hl, hnc, hcm, hc, h0⟩ := h
  unfold maxLen at hcm
  by_cases hbig : 64 < n
  · have hbi : (64 : Int) < (n : Int) := by omega
    rw [show checkP L = (3, 0) by unfold checkP; rw [hl, if_pos hbig]]
    clear hl hc HS
    go_enter Try.func11, Try.ntmps11
    go_wp2
    go_ret2
    exact ⟨rfl, Grew.refl _⟩
  · have hbi : ¬ (64 : Int) < (n : Int) := by omega
    obtain ⟨R, hR⟩ : ∃ R, R = checkP L := ⟨_, rfl⟩
    rw [← hR]
    have HR := Lib.hid hR
    have HL := Lib.hid hl
    have HC := Lib.hid hc
    clear hl hc hR
    go_enter Try.func11, Try.ntmps11
    go_wp2
    go_loopw [14] (fun i wr => ∃ k : Nat, k ≤ n ∧ i = .int .i64 k ∧ Hid (firstBad (rankP L) n 0 = firstBad (rankP L) (n - k) k) ∧ Hid (Grew w wr)) (fun i _ => n - (intOf i).toNat)
    case atStart => exact ⟨0, by omega, rfl, rfl, Grew.refl _⟩
    case round =>
      obtain ⟨k, hk, rfl, hch, hbl⟩ := hrel
      by_cases hlt : k < n
      · have hi0 : (0 : Int) ≤ (k : Int) := by omega
        have hi5 : (k : Int) < (n : Int) := by omega
        obtain ⟨b, off, rfl, hcs⟩ := HC.out (by omega)
        have hcs2 := hcs.later hbl.out.1 (hcs.lt (by omega))
        obtain ⟨c, hc⟩ : ∃ c, c = L.getD k j0 := ⟨_, rfl⟩
        have hk0 := hcs2 k hlt
        rw [← hc] at hk0
        have e0 : wr.cell? ⟨b, off + k * 5, none⟩ = some (.int .i64 c.id) := hk0 0 (by omega)
        have e1 : wr.cell? ⟨b, off + k * 5 + 1, none⟩ = some (.int .i64 c.ki) := hk0 1 (by omega)
        have e2 : wr.cell? ⟨b, off + k * 5 + 2, none⟩ = some (.int .i64 c.pa) := hk0 2 (by omega)
        have e3 : wr.cell? ⟨b, off + k * 5 + 3, none⟩ = some (.int .i64 c.fi) := hk0 3 (by omega)
        have e4 : wr.cell? ⟨b, off + k * 5 + 4, none⟩ = some (.slice c.ra c.rn c.rc) := hk0 4 (by omega)
        have HK := Lib.hid hcs2
        have HCE := Lib.hid hc
        clear hcs hcs2 hk0 hc
        by_cases ha : c.id < 1 ∨ 1099511627775 < c.id
        · have hr : rankP L k = 5 := by unfold rankP; rw [← HCE.out, if_pos ha]
          have HB := Lib.hid (check_bad HL.out hbig (firstBad_bad hlt hch.out hr (by decide)) (by simp))
          rw [← HR.out] at HB
          clear hr
          by_cases a1 : c.id < 1
          · clear ha
            go_wp2_with fail
            go_ret2
            exact ⟨by rw [HB.out]; rfl, hbl.out.alloc _⟩
          · have a2 : 1099511627775 < c.id := by omega
            clear ha
            go_wp2_with fail
            go_ret2
            exact ⟨by rw [HB.out]; rfl, hbl.out.alloc _⟩
        · have a1 : ¬ c.id < 1 := by omega
          have a2 : ¬ 1099511627775 < c.id := by omega
          have hr : rankP L k = if 0 < k ∧ c.id ≤ (L.getD (k - 1) j0).id then 7 else if kindP c.ki = true ∧ kindP c.fi = true then 0 else 2 := by
            unfold rankP
            rw [← HCE.out, if_neg ha]
          have HRK := Lib.hid hr
          clear hr ha
          go_wp2_with fail
          generalize hw1 : wr.alloc (Obj.cells #[Value.int IntKind.i64 c.id, Value.int IntKind.i64 c.ki, Value.int IntKind.i64 c.pa, Value.int IntKind.i64 c.fi, Value.slice c.ra c.rn c.rc] 33) = w1
          have hh : w1.heap[wr.heap.size]? = some (.cells c.row 33 (0, 0)) := by rw [← hw1]; exact alloc_new _ _
          have g1 : Grew wr w1 := by rw [← hw1]; exact (Grew.refl _).alloc _
          have HG1 := Lib.hid g1
          have f0 : w1.cell? ⟨wr.heap.size, 0, none⟩ = some (.int .i64 c.id) := cells_row c hh 0 (by omega)
          have f1 : w1.cell? ⟨wr.heap.size, 1, none⟩ = some (.int .i64 c.ki) := cells_row c hh 1 (by omega)
          have f3 : w1.cell? ⟨wr.heap.size, 3, none⟩ = some (.int .i64 c.fi) := cells_row c hh 3 (by omega)
          clear hh hw1 g1 e0 e1 e2 e3 e4
          by_cases hk0 : k = 0
          · have hkz : ¬ (0 : Int) < (k : Int) := by omega
            have hkn : ¬ 0 < k := by omega
            have HK0 := Lib.hid hk0
            clear hk0
            go_region
            go_wp2_with fail
            have hr : rankP L k = if kindP c.ki = true ∧ kindP c.fi = true then 0 else 2 := by
              rw [HRK.out, if_neg (by rintro ⟨h, _⟩; exact hkn h)]
            have HRR := Lib.hid hr
            clear hr
            obtain ⟨p, hp⟩ : ∃ p, p = kindP c.ki := ⟨_, rfl⟩
            obtain ⟨q, hq⟩ : ∃ q, q = kindP c.fi := ⟨_, rfl⟩
            have hk1 : ∀ w', Calls Try.prog 29 #[.int .i64 c.ki] w' fun e w2 => e = .returned (.bool p) ∧ w' = w2 := by rw [hp]; exact kind_any _
            have hk3 : ∀ w', Calls Try.prog 29 #[.int .i64 c.fi] w' fun e w2 => e = .returned (.bool q) ∧ w' = w2 := by rw [hq]; exact kind_any _
            rw [← hp, ← hq] at HRR
            have HK1 := Lib.hid hk1
            have HK3 := Lib.hid hk3
            clear hp hq hk1 hk3
            cases p with
            | false =>
              have HB := Lib.hid (check_bad HL.out hbig (firstBad_bad hlt hch.out (r := 2) (by rw [HRR.out]; rfl) (by decide)) (by simp))
              rw [← HR.out] at HB
              go_wp2_with fail
              refine (HK1.out _).mono ?_
              rintro e w' ⟨rfl, rfl⟩
              go_wp2_with fail
              go_ret2
              exact ⟨by rw [HB.out]; rfl, hbl.out.trans HG1.out.drew⟩
            | true =>
              cases q with
              | false =>
                have HB := Lib.hid (check_bad HL.out hbig (firstBad_bad hlt hch.out (r := 2) (by rw [HRR.out]; rfl) (by decide)) (by simp))
                rw [← HR.out] at HB
                go_wp2_with fail
                refine (HK1.out _).mono ?_
                rintro e w' ⟨rfl, rfl⟩
                go_wp2_with fail
                refine (HK3.out _).mono ?_
                rintro e w' ⟨rfl, rfl⟩
                go_wp2_with fail
                go_ret2
                exact ⟨by rw [HB.out]; rfl, hbl.out.trans HG1.out.drew⟩
              | true =>
                go_wp2_with fail
                refine (HK1.out _).mono ?_
                rintro e w' ⟨rfl, rfl⟩
                go_wp2_with fail
                refine (HK3.out _).mono ?_
                rintro e w' ⟨rfl, rfl⟩
                go_wp2_with fail
                go_roundw
                case rel =>
                  exact ⟨k + 1, by omega, by go_num, firstBad_on hlt hch.out (by rw [HRR.out]; rfl), hbl.out.trans HG1.out.drew⟩
                case measure => simp [intOf]; omega
          · obtain ⟨m, hkm⟩ : ∃ m, k = m + 1 := ⟨k - 1, by omega⟩
            have hbz : b < wr.heap.size := HK.out.lt (by omega)
            obtain ⟨d, hd⟩ : ∃ d, d = L.getD m j0 := ⟨_, rfl⟩
            have hm := HK.out m (by omega) 0 (by omega)
            rw [← hd] at hm
            have g0 : w1.cell? ⟨b, off + m * 5, none⟩ = some (.int .i64 d.id) := HG1.out.cell hm
            have hmw : IntKind.i64.wrap ((k : Int) - 1) = (m : Int) := by rw [show (k : Int) - 1 = (m : Int) by omega]; exact IntWalk.i64_in _ (by omega)
            have hm0 : (0 : Int) ≤ (m : Int) := by omega
            have hmn : (m : Int) < (n : Int) := by omega
            have hmp : (0 : Int) < (k : Int) := by omega
            have hkn : 0 < k := by omega
            have hrm : rankP L k = if c.id ≤ d.id then 7 else if kindP c.ki = true ∧ kindP c.fi = true then 0 else 2 := by
              rw [HRK.out, show k - 1 = m by omega, ← hd]
              by_cases hle : c.id ≤ d.id
              · rw [if_pos ⟨hkn, hle⟩, if_pos hle]
              · rw [if_neg (fun h => hle h.2), if_neg hle]
            have HRM := Lib.hid hrm
            have HKM := Lib.hid hkm
            have HD := Lib.hid hd
            clear hm hrm hkm hk0 hd HRK hbz
            by_cases hle : c.id ≤ d.id
            · have HB := Lib.hid (check_bad HL.out hbig (firstBad_bad hlt hch.out (r := 7) (by rw [HRM.out, if_pos hle]) (by decide)) (by simp))
              rw [← HR.out] at HB
              go_region
              go_wp2_with fail
              go_ret2
              exact ⟨by rw [HB.out]; rfl, hbl.out.trans HG1.out.drew⟩
            · have HRK := HRM
              go_region
              go_wp2_with fail
              have hr : rankP L k = if kindP c.ki = true ∧ kindP c.fi = true then 0 else 2 := by
                rw [HRK.out, if_neg (by omega)]
              have HRR := Lib.hid hr
              clear hr
              obtain ⟨p, hp⟩ : ∃ p, p = kindP c.ki := ⟨_, rfl⟩
              obtain ⟨q, hq⟩ : ∃ q, q = kindP c.fi := ⟨_, rfl⟩
              have hk1 : ∀ w', Calls Try.prog 29 #[.int .i64 c.ki] w' fun e w2 => e = .returned (.bool p) ∧ w' = w2 := by rw [hp]; exact kind_any _
              have hk3 : ∀ w', Calls Try.prog 29 #[.int .i64 c.fi] w' fun e w2 => e = .returned (.bool q) ∧ w' = w2 := by rw [hq]; exact kind_any _
              rw [← hp, ← hq] at HRR
              have HK1 := Lib.hid hk1
              have HK3 := Lib.hid hk3
              clear hp hq hk1 hk3
              cases p with
              | false =>
                have HB := Lib.hid (check_bad HL.out hbig (firstBad_bad hlt hch.out (r := 2) (by rw [HRR.out]; rfl) (by decide)) (by simp))
                rw [← HR.out] at HB
                go_wp2_with fail
                refine (HK1.out _).mono ?_
                rintro e w' ⟨rfl, rfl⟩
                go_wp2_with fail
                go_ret2
                exact ⟨by rw [HB.out]; rfl, hbl.out.trans HG1.out.drew⟩
              | true =>
                cases q with
                | false =>
                  have HB := Lib.hid (check_bad HL.out hbig (firstBad_bad hlt hch.out (r := 2) (by rw [HRR.out]; rfl) (by decide)) (by simp))
                  rw [← HR.out] at HB
                  go_wp2_with fail
                  refine (HK1.out _).mono ?_
                  rintro e w' ⟨rfl, rfl⟩
                  go_wp2_with fail
                  refine (HK3.out _).mono ?_
                  rintro e w' ⟨rfl, rfl⟩
                  go_wp2_with fail
                  go_ret2
                  exact ⟨by rw [HB.out]; rfl, hbl.out.trans HG1.out.drew⟩
                | true =>
                  go_wp2_with fail
                  refine (HK1.out _).mono ?_
                  rintro e w' ⟨rfl, rfl⟩
                  go_wp2_with fail
                  refine (HK3.out _).mono ?_
                  rintro e w' ⟨rfl, rfl⟩
                  go_wp2_with fail
                  go_roundw
                  case rel =>
                    exact ⟨k + 1, by omega, by go_num, firstBad_on hlt hch.out (by rw [HRR.out]; rfl), hbl.out.trans HG1.out.drew⟩
                  case measure => simp [intOf]; omega
      · obtain rfl : k = n := by omega
        have HP := Lib.hid (check_par HL.out hbig (firstBad_end hch.out))
        rw [← HR.out] at HP
        go_wp2
        have HG0 := hbl
        generalize wr = wm at HG0 ⊢
        go_loopw [59] (fun i wr => ∃ m : Nat, m ≤ k ∧ i = .int .i64 m ∧ Hid (firstBad (par L) k 0 = firstBad (par L) (k - m) m) ∧ Hid (Grew w wr)) (fun i _ => k - (intOf i).toNat)
        case atStart => exact ⟨0, by omega, rfl, rfl, HG0.out⟩
        case round =>
          obtain ⟨m, hm, rfl, hch2, hbl2⟩ := hrel
          by_cases hlt2 : m < k
          · have hi0 : (0 : Int) ≤ (m : Int) := by omega
            have hi5 : (m : Int) < (k : Int) := by omega
            have HSM := Lib.hid (HS.out.grew hbl2.out)
            obtain ⟨b, off, rfl, hcs⟩ := HSM.out.2.2.2.1 (by omega)
            obtain ⟨c, hc⟩ : ∃ c, c = L.getD m j0 := ⟨_, rfl⟩
            have hk0 := hcs m hlt2
            rw [← hc] at hk0
            have e0 : wr.cell? ⟨b, off + m * 5, none⟩ = some (.int .i64 c.id) := hk0 0 (by omega)
            have e1 : wr.cell? ⟨b, off + m * 5 + 1, none⟩ = some (.int .i64 c.ki) := hk0 1 (by omega)
            have e2 : wr.cell? ⟨b, off + m * 5 + 2, none⟩ = some (.int .i64 c.pa) := hk0 2 (by omega)
            have e3 : wr.cell? ⟨b, off + m * 5 + 3, none⟩ = some (.int .i64 c.fi) := hk0 3 (by omega)
            have e4 : wr.cell? ⟨b, off + m * 5 + 4, none⟩ = some (.slice c.ra c.rn c.rc) := hk0 4 (by omega)
            obtain ⟨r, hr⟩ : ∃ r, r = parentP L c := ⟨_, rfl⟩
            have hcall := parent_any _ k cap L c (wr.alloc (Obj.cells c.row 33)) (HSM.out.grew ((Grew.refl _).alloc _))
            rw [← hr] at hcall
            unfold Jur.val Jur.row at hcall
            have hpr : par L m = r := by unfold par; rw [← hc, hr]
            have HX := Lib.hid hcall
            have HPR := Lib.hid hpr
            clear hcs hk0 hc hr hcall hpr
            by_cases hz : r = 0
            · subst hz
              go_wp2_with fail
              refine HX.out.mono ?_
              rintro e w1 ⟨rfl, hb1⟩
              go_wp2_with fail
              go_roundw
              case rel => exact ⟨m + 1, by omega, by go_num, firstBad_on hlt2 hch2.out HPR.out, hbl2.out.trans (((Grew.refl _).alloc _).trans hb1)⟩
              case measure => simp [intOf]; omega
            · have hz1 : (r == 0) = false := by simpa using hz
              have HB := HP.out
              rw [firstBad_bad hlt2 hch2.out HPR.out hz] at HB
              have HB2 := Lib.hid HB
              clear HB
              go_wp2_with fail
              refine HX.out.mono ?_
              rintro e w1 ⟨rfl, hb1⟩
              go_wp2_with fail
              go_ret2
              exact ⟨by rw [HB2.out]; rfl, hbl2.out.trans (((Grew.refl _).alloc _).trans hb1)⟩
          · obtain rfl : m = k := by omega
            have HB := HP.out
            rw [firstBad_end hch2.out] at HB
            have HB2 := Lib.hid HB
            clear HB
            go_wp2
            go_ret2
            exact ⟨by rw [HB2.out]; rfl, hbl2.out⟩
end Go.Proofs.Ytbidappkmnedaaa
