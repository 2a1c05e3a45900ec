/- law 28: awake -/
import Derived.Test.YtdglaacjefcfdaaLOpened
namespace Go.Proofs.Ytdglaacjefcfdaa
open Go.RowKit
theorem lit12 (w : World) : IsBytes (w.alloc (.cells #[.int .u8 1, .int .u8 2] 5)) (some ⟨w.heap.size, 0, none⟩) 2 2 [1, 2] := by
  refine ⟨rfl, Nat.le_refl _, by unfold maxLen; omega, fun _ => ⟨w.heap.size, 0, rfl, fun i hi => ?_⟩, fun h => by cases h⟩
  have h := heap_alloc_new w (.cells #[.int .u8 1, .int .u8 2] 5)
  match i, hi with
  | 0, _ => exact cell_of_row _ _ _ _ _ _ h
  | 1, _ => exact cell_of_row _ _ _ _ _ _ h
theorem DiskRow.moved {w w' : World} {d mb : Nat} {st fu : Int} {out : Bool} (h : DiskRow w d mb st fu out) (hb : w'.heap[d]? = w.heap[d]?) : DiskRow w' d mb st fu out := hb.trans h
theorem New_no (w : World) : Calls Try.prog 9 #[] w fun e w' => ∃ d mb, e = .returned (.pointer (some ⟨d, 0, none⟩)) ∧ w.heap.size ≤ mb ∧ mb < d ∧ DiskNo w' (-1) d mb ∧ Below w.heap.size w w' := by
  refine (New_any w).mono ?_
  rintro e w' ⟨d, mb, rfl, h1, h2, h3, h4, h5⟩
  exact ⟨d, mb, rfl, h1, h2, ⟨0, 0, by omega, h2, h3, h4⟩, h5⟩
theorem lit_lists (w : World) : IsLists (((w.alloc (.cells #[.int .u8 1, .int .u8 2] 5)).alloc (.cells #[] 5)).alloc (.cells #[.slice (some ⟨w.heap.size, 0, none⟩) 2 2, .slice (some ⟨w.heap.size + 1, 0, none⟩) 0 0] 24)) (some ⟨w.heap.size + 1 + 1, 0, none⟩) 2 2 [[1, 2], []] := by
  have h := heap_alloc_new ((w.alloc (.cells #[.int .u8 1, .int .u8 2] 5)).alloc (.cells #[] 5)) (.cells #[.slice (some ⟨w.heap.size, 0, none⟩) 2 2, .slice (some ⟨w.heap.size + 1, 0, none⟩) 0 0] 24)
  rw [show ((w.alloc (.cells #[.int .u8 1, .int .u8 2] 5)).alloc (.cells #[] 5)).heap.size = w.heap.size + 1 + 1 by simp] at h
  have h12 := (lit12 w).later ((((Below.refl _ _).alloc (Nat.le_refl _) (.cells #[] 5))).alloc (by simp) (.cells #[.slice (some ⟨w.heap.size, 0, none⟩) 2 2, .slice (some ⟨w.heap.size + 1, 0, none⟩) 0 0] 24))
  refine ⟨rfl, Nat.le_refl _, by unfold maxLen; omega, (fun e => by cases e), fun i hi => ?_⟩
  match i, hi with
  | 0, _ => exact ⟨_, 0, _, _, _, rfl, cell_of_row _ _ _ _ _ _ h, h12⟩
  | 1, _ => exact ⟨_, 0, _, _, _, rfl, cell_of_row _ _ _ _ _ _ h, ⟨rfl, Nat.le_refl _, by unfold maxLen; omega, fun h => absurd rfl h, fun e => by cases e⟩⟩
theorem scan_two : Fr.scanF ([] ++ Fr.putF [1, 2] ++ Fr.putF []) = ([[1, 2], []], 26, 0) := by
  have h := Fr.scanF_put [1, 2] (Fr.putF []) (by simp)
  have h2 := Fr.scanF_put [] [] (by simp)
  rw [Fr.scanF_nil] at h2
  rw [List.append_nil] at h2
  rw [h2] at h
  rw [List.nil_append, h]
  rfl
set_option maxRecDepth 100000 in
set_option maxHeartbeats 2000000 in
theorem awake_any (w : World) : Calls Try.prog 8 #[] w fun e w' => e = .returned (.bool true) ∧ Below w.heap.size w w' := by
  obtain ⟨base, hbase⟩ : ∃ b, b = w.heap.size := ⟨_, rfl⟩
  have HBASE := Lib.hid hbase
  go_enter Try.func8, Try.ntmps8
  go_wp2_with fail
  refine (New_no w).mono ?_
  rintro e w1 ⟨d, mb, rfl, hmb, hdm, hno, hb1⟩
  rw [← hbase] at hmb hb1
  have hbs1 : base ≤ w1.heap.size := by have := hb1.size; omega
  have HN1 := Lib.hid hno
  have HB1 := Lib.hid (And.intro hmb (And.intro hdm hb1))
  clear hno hmb hdm hb1 hbase
  go_wp2_with fail
  refine (opened_new base d mb w1 hbs1 HN1.out).mono ?_
  rintro e w2 ⟨l, f, rfl, hl, hf, hlr, hdo, hmv⟩
  have HX2 := Lib.hid (And.intro hl (And.intro hf (And.intro hlr (And.intro hdo hmv))))
  clear hl hf hlr hdo hmv
  go_wp2_with fail
  refine (Add_any base d mb f l 0 0 [] _ 2 2 [1, 2] _ ?_ (by decide) (by decide) (HX2.out.2.2.1.later ((Below.refl _ _).alloc (Nat.le_refl _) _)) (HX2.out.2.2.2.1.later ((Below.refl _ _).alloc (Nat.le_refl _) _)) (lit12 w2) (by omega) (by omega) (by omega) (by omega) (by omega) (by simp)).mono ?_
  · have := HX2.out.2.2.2.2.size
    simp
    omega
  rintro e w3 ⟨rfl, hl3, hd3, hm3⟩
  have hl3' : LedRow w3 l d 1 14 false := hl3
  have hs3 : base ≤ w3.heap.size := by
    have h1 := HX2.out.2.2.2.2.size
    have h2 := hm3.size
    simp at h2
    omega
  have HX3 := Lib.hid (And.intro hl3' (And.intro hd3 hm3))
  clear hl3 hl3' hd3 hm3
  go_wp2_with fail
  refine (Add_any base d mb f l 1 14 ([] ++ Fr.putF [1, 2]) none 0 0 [] _ hs3 (by decide) (by decide) HX3.out.1 HX3.out.2.1 (IsBytes.nil _) (by omega) (by omega) (by omega) (by omega) (by omega) (by simp [putF_length])).mono ?_
  rintro e w4 ⟨rfl, hl4, hd4, hm4⟩
  have hl4' : LedRow w4 l d 2 26 false := hl4
  have hs4 : base ≤ w4.heap.size := by
    have h2 := hm4.size
    omega
  have HX4 := Lib.hid (And.intro hl4' (And.intro hd4 hm4))
  clear hl4 hl4' hd4 hm4
  go_wp2_with fail
  refine (Len_any l d 2 26 false w4 HX4.out.1).mono ?_
  rintro e w5 ⟨rfl, rfl⟩
  go_wp2_with fail
  refine (Size_any l d 2 26 false w4 HX4.out.1).mono ?_
  rintro e w5 ⟨rfl, rfl⟩
  go_wp2_with fail
  refine (opened_log base d mb f ([] ++ Fr.putF [1, 2] ++ Fr.putF []) [] _ [[1, 2], []] 26 2 w4 hs4 HX4.out.2.1 rfl (by rw [allB_nil]; exact scan_two) rfl).mono ?_
  rintro e w6 ⟨l2, v, rfl, hl6, hlr6, hd6, hls6, hm6⟩
  obtain ⟨la, lc, hv, hll⟩ := hls6.reads
  subst hv
  have HX6 := Lib.hid (And.intro hll hm6)
  clear hl6 hlr6 hd6 hls6 hm6 hll
  go_wp2_with fail
  have hB7 : Below w6.heap.size w6 (((w6.alloc (.cells #[.int .u8 1, .int .u8 2] 5)).alloc (.cells #[] 5)).alloc (.cells #[.slice (some ⟨w6.heap.size, 0, none⟩) 2 2, .slice (some ⟨w6.heap.size + 1, 0, none⟩) 0 0] 24)) := (((Below.refl _ _).alloc (Nat.le_refl _) _).alloc (by simp) _).alloc (by simp; omega) _
  refine (SameLists_any la (some ⟨w6.heap.size + 1 + 1, 0, none⟩) 2 2 lc 2 [[1, 2], []] [[1, 2], []] _ (HX6.out.1.later hB7) (lit_lists w6)).mono ?_
  have HB7 := Lib.hid hB7
  clear hB7
  generalize (World.alloc (World.alloc (World.alloc w6 _) _) _) = w7 at HB7 ⊢
  rintro e w8 ⟨rfl, q, rfl⟩
  rw [show (([[1, 2], []] : List (List UInt8)) == [[1, 2], []]) = true from rfl]
  go_wp2_with fail
  go_ret
  refine ⟨rfl, ?_⟩
  rw [← HBASE.out]
  have hd : base ≤ d := by have := HB1.out.1; have := HB1.out.2.1; omega
  have hf : base ≤ f := Nat.le_trans hbs1 HX2.out.2.1
  have hl : base ≤ l := Nat.le_trans hbs1 HX2.out.1
  have b2 := HX2.out.2.2.2.2.below hd HB1.out.1 hf hbs1
  have b3 := HX3.out.2.2.below hd HB1.out.1 hf hl (Nat.le_trans (Nat.le_trans hbs1 HX2.out.2.2.2.2.size) (by simp))
  have b4 := HX4.out.2.2.below hd HB1.out.1 hf hl hs3
  have b6 := HX6.out.2.below hd HB1.out.1 hf hs4
  have b23 : Below base w2 w3 := ((Below.refl base w2).alloc (Nat.le_trans hbs1 HX2.out.2.2.2.2.size) _).trans b3
  exact below_drewN (HB1.out.2.2.trans (b2.trans (b23.trans (b4.trans (b6.trans (HB7.out.mono (Nat.le_trans hs4 HX6.out.2.size))))))) q
end Go.Proofs.Ytdglaacjefcfdaa
