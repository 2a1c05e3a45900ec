/- layer 16: WordsLarge -/
import Derived.Test.YtbgihfjagfbfgaaDoorMWKit
import Derived.Test.YtbgihfjagfbfgaaDoorMW4
import Derived.Test.YtbgihfjagfbfgaaDoorMWAll
import Derived.Test.YtbgihfjagfbfgaaDoorMQPick
import Derived.Lib.ConvBytes
import Derived.Laws.IdiomStrings
import Derived.Laws.Concat
import Derived.Lib.SmallJoins
set_option linter.unusedSimpArgs false
set_option linter.unusedVariables false
namespace Go.Proofs.YtbgihfjagfbfgaaDoor
open Go.RowKit Go.Words
attribute [local go_sem] Oper.semAt_some
theorem pick_nat (x : Int) {n : Nat} (h : 0 < n) : ∃ b : Nat, pickP x n = (b : Int) ∧ b < n := by
  have h1 : pickP x (n : Int) = x % (n : Int) := by unfold pickP; rw [if_neg (by omega)]
  have h2 := Int.emod_nonneg x (show (n : Int) ≠ 0 by omega)
  have h3 := Int.emod_lt_of_pos x (show (0 : Int) < n by omega)
  exact ⟨(x % (n : Int)).toNat, by rw [h1]; omega, by omega⟩
theorem bs_append (a b : Wd) : bs a ++ bs b = bs (a ++ b) := by
  unfold bs
  apply ByteArray.ext
  simp
/-- the bytes of a word, in a row of their own. -/
structure RowB (w : World) (g : Nat) (L : Wd) (cap : Nat) : Prop where
  row : ∃ cs : Array Value, w.heap[g]? = some (.cells cs 5 (cs.size, cs.size + 1)) ∧ L.length ≤ cs.size ∧ ∀ i, i < L.length → cs[i]? = some (.int .u8 (L.getD i 0).toNat)
theorem RowB.later {w w' : World} {g : Nat} {L : Wd} {cap : Nat} (h : RowB w g L cap) (hb : Below w.heap.size w w') : RowB w' g L cap := by
  obtain ⟨cs, h1, h2⟩ := h.row
  exact ⟨cs, (hb.block _ (heap_lt2 h1)).trans h1, h2⟩
theorem RowB.cell {w : World} {g : Nat} {L : Wd} {cap : Nat} (h : RowB w g L cap) {i : Nat} (hi : i < L.length) : w.cell? ⟨g, i, none⟩ = some (.int .u8 (L.getD i 0).toNat) ∧ w.frozen? ⟨g, i, none⟩ = false := by
  obtain ⟨cs, h1, h2, h3⟩ := h.row
  refine ⟨(cell_of_row _ _ _ _ _ _ h1).trans (h3 i hi), ?_⟩
  unfold World.frozen?
  simp only [h1]
  simp
  omega
theorem RowB.back {w : World} {g : Nat} {L : Wd} {cap : Nat} (h : RowB w g L cap) : (convert 32 9 (.slice (some ⟨g, 0, none⟩) L.length cap)).run Tryd.prog w = .ok (sV L) w :=
  run_convert_bytes_back w _ _ _ _ _ _ Tryd.underlying32 Tryd.underlying5 Tryd.underlying9 (fun j hj => by
    have e : (⟨g, 0, none⟩ : Addr).add j = ⟨g, 0 + j, none⟩ := by unfold Addr.add; split <;> simp_all
    rw [e, Nat.zero_add, (h.cell hj).1, List.getD_eq_getElem?_getD, List.getElem?_eq_getElem hj]; rfl)
theorem RowB.put {w : World} {g : Nat} {L : Wd} {cap : Nat} (h : RowB w g L cap) {i : Nat} (c : UInt8) (hi : i < L.length) : RowB (w.setCell ⟨g, i, none⟩ (.int .u8 c.toNat)) g (L.set i c) cap := by
  obtain ⟨cs, h1, h2, h3⟩ := h.row
  refine ⟨cs.setIfInBounds i (.int .u8 c.toNat), ?_, by simpa using h2, fun j hj => ?_⟩
  · rw [setCell_eq_setRow w g i cs _ _ (.int .u8 c.toNat) h1, setRow_heap w g cs _ _ _ h1, Array.size_setIfInBounds]
  · rw [List.length_set] at hj
    by_cases e : j = i
    · subst e
      rw [Array.getElem?_setIfInBounds_self]
      rw [if_pos (by omega), List.getD_eq_getElem?_getD, List.getElem?_set_self hj]; rfl
    · rw [Array.getElem?_setIfInBounds_ne (fun e2 => e e2.symm), h3 j hj, List.getD_eq_getElem?_getD, List.getD_eq_getElem?_getD, List.getElem?_set_ne (fun e2 => e e2.symm)]
theorem bytes_row (w : World) (L : Wd) : ∃ W cap, (convert 9 32 (sV L)).run Tryd.prog w = .ok (.slice (some ⟨w.heap.size, 0, none⟩) L.length cap) W ∧ L.length ≤ cap ∧ RowB W w.heap.size L cap ∧ Below w.heap.size w W := by
  have h := Lib.run_convert_string_bytes (P := Tryd.prog) w 9 32 5 (bs L) Tryd.underlying9 Tryd.underlying32 Tryd.underlying5
  rw [bs_size] at h
  refine ⟨_, _, h, ?_, ⟨Lib.bytesCells w 5 (bs L), Lib.bytesWorld_at_new w 5 (bs L), ?_, fun i hi => ?_⟩, ?_⟩
  · have := grownCap_ge w L.length 0 5
    exact this
  · unfold Lib.bytesCells
    simp [bs]
  · unfold Lib.bytesCells
    rw [Array.getElem?_append_left (by simpa [bs] using hi)]
    simp [bs, List.getD_eq_getElem?_getD, List.getElem?_eq_getElem hi]
  · exact ⟨rfl, rfl, rfl, by rw [Lib.bytesWorld_size]; omega, fun j hj => Lib.bytesWorld_at_old w _ _ j hj⟩
set_option maxRecDepth 100000 in
set_option maxHeartbeats 4000000 in
theorem WordsLarge_any (k wh at_ : Int) (w : World) (h : Tb w) : Calls Tryd.prog 6 #[.int .i64 k, .int .i64 wh, .int .i64 at_] w fun e w' => e = .returned (.bool true) ∧ Below w.heap.size w w' := by
  have HT := Lib.hid h
  clear h
  obtain ⟨P, hP⟩ : ∃ P, P = kindP k := ⟨_, rfl⟩
  have HS : Hid (∀ (x : Wd) (wX : World), Tb wX → Calls Tryd.prog 9 #[.int .i64 k, sV x] wX fun e w' => e = .returned (foundV (firstS P x)) ∧ Below wX.heap.size wX w') := Lib.hid (fun x wX hT => by
    have := Short_any k x wX hT
    rw [short_is, ← hP] at this
    exact this)
  have HL : Hid (∀ (x : Wd) (wX : World), Tb wX → Calls Tryd.prog 10 #[.int .i64 k, sV x] wX fun e w' => e = .returned (foundV (firstL P x)) ∧ Below wX.heap.size wX w') := Lib.hid (fun x wX hT => by
    have := Long_any k x wX hT
    rw [long_is, ← hP] at this
    exact this)
  obtain ⟨L, hLk⟩ : ∃ L, L = kindS k := ⟨_, rfl⟩
  obtain ⟨n, hn⟩ : ∃ n, n = L.length := ⟨_, rfl⟩
  have HAL : Hid (∀ wX, Tb wX → Calls Tryd.prog 13 #[.int .i64 k] wX fun e w' => ∃ ao cap, e = .returned (.slice ao n cap) ∧ IsS w' ao n cap L ∧ OwnS w' wX.heap.size (.slice ao n cap) L ∧ Below wX.heap.size wX w') := Lib.hid (fun wX hT => by
    have := All_kind k wX hT
    rw [← hLk, ← hn] at this
    exact this)
  have HLG : Hid (∀ b, b < n → ∃ lg, firstL P (L.getD b []) = some lg ∧ 0 < lg.length ∧ (∀ i, i < lg.length → smallW lg i = lg ∨ firstS P (smallW lg i) = none) ∧ firstS P (lg ++ [32]) = none ∧ firstS P (32 :: lg) = none) := Lib.hid (fun b hb => by
    have hb2 : b < (kindS k).length := by rw [← hLk, ← hn]; exact hb
    obtain ⟨p, hp, e⟩ := kindS_mem.1 (getD_memS hb2)
    rw [hLk, hP]
    exact ⟨p.1, firstL_of (kind_good k) hp e, kind_large k hp⟩)
  have HLEN : Hid (∀ p ∈ P, p.1.length ≤ 1000) := Lib.hid (fun p hp => by
    have h := kind_all (Q := fun P => P.all (fun p => decide (p.1.length ≤ 1000)) = true) (by decide +kernel) (by decide +kernel) (by decide +kernel) (by decide +kernel) rfl k
    rw [← hP] at h
    exact of_decide_eq_true (List.all_eq_true.1 h p hp))
  have hn51 : n ≤ 51 := by rw [hn, hLk]; exact kindS_len k
  clear hP hLk hn
  go_enter Tryd.func6, Tryd.ntmps6
  go_wp2_with fail
  refine (awake_any w HT.out).mono ?_
  rintro e w1 ⟨rfl, hb⟩
  have HB1 := Lib.hid hb
  have HT1 := Lib.hid (HT.out.later hb)
  clear hb
  go_wp2_with fail
  refine (HAL.out w1 HT1.out).mono ?_
  rintro e w2 ⟨ao, cap, rfl, hi, _, hb⟩
  have HB2 := Lib.hid (HB1.out.trans (hb.mono HB1.out.size))
  have HT2 := Lib.hid (HT1.out.later hb)
  have HI := Lib.hid hi
  have hnc := hi.2.1
  have hcm : cap ≤ 9223372036854775807 := hi.2.2.1
  clear hb hi
  by_cases h0 : n = 0
  · subst h0
    go_wp2_with fail
    go_ret
    exact ⟨rfl, HB2.out⟩
  have hne : ((n : Int) == 0) = false := by simp; omega
  have hne2 : ¬ (n : Int) = 0 := by omega
  go_wp2_with fail
  refine (Pick_any wh n w2 (by omega)).mono ?_
  rintro e wx ⟨rfl, rfl⟩
  obtain ⟨b, hb, hbn⟩ := pick_nat wh (n := n) (by omega)
  rw [hb]
  obtain ⟨ob, oo, hao, cb⟩ := HI.out.at hbn
  subst hao
  have hb0 : (0 : Int) ≤ (b : Int) := by omega
  have hb5 : (b : Int) < (n : Int) := by omega
  obtain ⟨lg, e1, e2, e3, e4, e5⟩ := HLG.out b hbn
  obtain ⟨s0, hs0⟩ : ∃ s, s = L.getD b [] := ⟨_, rfl⟩
  rw [← hs0] at cb e1
  have hl := HL.out s0 w2 HT2.out
  rw [e1] at hl
  have HLX := Lib.hid hl
  have hlen : lg.length ≤ 1000 := by
    obtain ⟨p, hp, _, e⟩ := firstL_some e1
    rw [← e]
    exact HLEN.out p hp
  have hne3 : ((bs lg).toList == []) = false := (bs_lit _ _).trans (decide_eq_false (fun e => by rw [e] at e2; exact absurd e2 (by simp)))
  have HE3 := Lib.hid e3
  have HE45 := Lib.hid (And.intro e4 e5)
  clear e1 e3 e4 e5 hs0 hl h0 hb
  go_wp2_with fail
  refine HLX.out.mono ?_
  rintro e w3 ⟨rfl, hb3⟩
  have HB3 := Lib.hid (HB2.out.trans (hb3.mono HB2.out.size))
  have HT3 := Lib.hid (HT2.out.later hb3)
  clear hb3 cb hb0 hb5 hne hne2
  unfold foundV
  obtain ⟨W4, c4, hcv, hc4, hrow, hbw⟩ := bytes_row w3 lg
  have HB4 := Lib.hid (HB3.out.trans (hbw.mono HB3.out.size))
  have HT4 := Lib.hid (HT3.out.later hbw)
  have HROW := Lib.hid hrow
  obtain ⟨m, hm⟩ : ∃ m, m = lg.length := ⟨_, rfl⟩
  rw [← hm] at hcv hc4 e2 hlen
  obtain ⟨i, hpi, him⟩ := pick_nat at_ (n := m) e2
  have HPI := Lib.hid hpi
  obtain ⟨gb, hgb⟩ : ∃ g, g = w3.heap.size := ⟨_, rfl⟩
  rw [← hgb] at hcv
  rw [← hgb] at HROW
  have HGB : Hid (w.heap.size ≤ gb) := Lib.hid (by rw [hgb]; exact HB3.out.size)
  have HM := Lib.hid hm
  have hi0 : (0 : Int) ≤ (i : Int) := by omega
  have hi5 : (i : Int) < (m : Int) := by omega
  obtain ⟨ci, fi⟩ := hrow.cell (i := i) (by omega)
  rw [← hgb] at ci fi
  obtain ⟨ch, hch⟩ : ∃ c, c = lg.getD i 0 := ⟨_, rfl⟩
  rw [← hch] at ci
  have hput := hrow.put (i := i) (ch ||| 32) (by omega)
  rw [← hgb] at hput
  obtain ⟨sm, hsm⟩ : ∃ s, s = smallW lg i := ⟨_, rfl⟩
  have hsm2 : lg.set i (ch ||| 32) = sm := by rw [hsm, hch]; rfl
  rw [hsm2] at hput
  have hsl : sm.length = m := by rw [hsm, hm]; unfold smallW; rw [List.length_set]
  obtain ⟨W5, hW5⟩ : ∃ W, W = W4.setCell ⟨gb, i, none⟩ (.int .u8 (bits .or .u8 (ch.toNat : Int) 32)) := ⟨_, rfl⟩
  rw [← or32 ch, ← hW5] at hput
  have hb5' : Below w.heap.size w W5 := by rw [hW5]; exact HB4.out.setCell (p := ⟨gb, i, none⟩) HGB.out _
  have hT5 : Tb W5 := HT.out.later hb5'
  have HB5 := Lib.hid hb5'
  have HT5 := Lib.hid hT5
  have HCV : Hid (∀ wX, Below W5.heap.size W5 wX → (convert 32 9 (.slice (some ⟨gb, 0, none⟩) m c4)).run Tryd.prog wX = .ok (sV sm) wX) := Lib.hid (fun wX hX => by
    have := (hput.later hX).back
    rw [hsl] at this
    exact this)
  have HSM : Hid (sm = lg ∨ firstS P sm = none) := Lib.hid (by rw [hsm]; exact HE3.out i (by omega))
  clear hrow hbw hpi hgb hm hput hsm hsm2 hsl hb5' hT5 him e2 hch
  go_wp2_with fail
  refine (Pick_any at_ m W4 (by omega)).mono ?_
  rintro e wx ⟨rfl, rfl⟩
  rw [HPI.out]
  have hcv0 := HCV.out W5 (Below.refl _ _)
  have HW5 := Lib.hid hW5
  rw [hW5] at hcv0
  clear hW5
  go_wp2_with fail
  rw [← HW5.out]
  clear hcv0 HW5 ci fi hi0 hi5 hcv
  refine (HS.out sm W5 HT5.out).mono ?_
  rintro e w6 ⟨rfl, hb6⟩
  have HB6 := Lib.hid (HB5.out.trans (hb6.mono HB5.out.size))
  have HT6 := Lib.hid (HT5.out.later hb6)
  have HX6 := Lib.hid hb6
  clear hb6
  unfold foundV
  obtain ⟨u, hu⟩ : ∃ u, u = firstS P sm := ⟨_, rfl⟩
  rw [← hu]
  have HU : Hid (sm = lg ∨ u = none) := Lib.hid (by rw [hu]; exact HSM.out)
  have hz0 : (bs lg).size ≤ 1000 := by rw [bs_size, ← HM.out]; exact hlen
  have hz1 : (bs lg).size + 1 ≤ 9223372036854775807 := by omega
  have hz2 : (bs lg).size ≤ 9223372036854775806 := by omega
  have hz3 : 1 + (bs lg).size ≤ 9223372036854775807 := by omega
  have hs := HS.out (lg ++ [32]) w6 HT6.out
  rw [HE45.out.1] at hs
  have HS6 := Lib.hid hs
  clear hs hu hz0
  go_wp2_with fail
  rw [show bs lg ++ { data := #[32] } = bs (lg ++ [32]) from bs_append lg [32]]
  refine HS6.out.mono ?_
  rintro e w7 ⟨rfl, hb7⟩
  have HB7 := Lib.hid (HB6.out.trans (hb7.mono HB6.out.size))
  have HT7 := Lib.hid (HT6.out.later hb7)
  have HX7 := Lib.hid (HX6.out.trans (hb7.mono HX6.out.size))
  have hs := HS.out (32 :: lg) w7 (HT6.out.later hb7)
  rw [HE45.out.2] at hs
  have HS7 := Lib.hid hs
  clear hb7 hs
  unfold foundV
  go_wp2_with fail
  rw [show ({ data := #[32] } : ByteArray) ++ bs lg = bs (32 :: lg) from bs_append [32] lg]
  refine HS7.out.mono ?_
  rintro e w8 ⟨rfl, hb8⟩
  have HB8 := Lib.hid (HB7.out.trans (hb8.mono HB7.out.size))
  have hcv := HCV.out w8 (HX7.out.trans (hb8.mono HX7.out.size))
  clear hb8
  unfold foundV
  cases u with
  | none =>
    clear hcv
    go_wp2_with fail
    go_ret
    exact ⟨rfl, HB8.out⟩
  | some a =>
    have hsl : sm = lg := HU.out.resolve_right (by simp)
    have q1 : ((bs sm).toList == (bs lg).toList) = true := (bs_eq _ _).trans (decide_eq_true hsl)
    clear hsl
    go_wp2_with fail
    go_ret
    exact ⟨rfl, HB8.out⟩
end Go.Proofs.YtbgihfjagfbfgaaDoor
