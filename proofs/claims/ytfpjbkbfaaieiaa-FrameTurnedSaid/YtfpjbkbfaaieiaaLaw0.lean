/- apportionlaw06: empty, awake, FrameKnown -/
import Derived.Test.YtfpjbkbfaaieiaaScan
import Derived.Test.YtfpjbkbfaaieiaaLent
import Derived.Lib.SlBytesConst
namespace Go.Proofs.Ytfpjbkbfaaieiaa
open Go.RowKit
def emptyL : List UInt8 := [0, 0, 0, 0, 255, 255, 255, 255, 0, 0, 0, 0]
theorem OwnB_block {w : World} {base g n : Nat} {l : List UInt8} (hg : w.heap[g]? = some (.cells (u8s l).toArray 5 (0, 0))) (hb : base ≤ g) (hn : l.length = n) (hm : n ≤ maxLen) : OwnB w base (.slice (some ⟨g, 0, none⟩) n n) l := by
  subst hn
  refine ⟨⟨by simp [u8s], .inr ⟨g, l.length, _, rfl, hb, hg, Nat.le_refl _, hm, by simp [u8s], by rw [List.toList_toArray, Nat.mul_one, List.take_of_length_le (by simp [u8s])]⟩⟩, ?_⟩
  intro g2 c t f h1 h2 u hu
  injection h1 with h1
  subst h1
  rw [show (({ block := g, off := 0, spot := none } : Addr).block) = g from rfl, hg] at h2
  injection h2 with h2
  injection h2 with h2 _ _
  subst h2
  exact isU8_u8s l u (by simpa using hu)
theorem OwnB.reads {w : World} {base n cap : Nat} {ao : Option Addr} {l : List UInt8} (h : OwnB w base (.slice ao n cap) l) : IsBytes w ao n cap l := by
  obtain ⟨ao2, cap2, e, hb, _⟩ := h.bytes
  injection e with e1 e2 e3
  subst e1; subst e3; rw [e2]; exact hb
theorem empty_any (w : World) : Calls Try.prog 26 #[] w fun e w' => ∃ g, e = .returned (.slice (some ⟨g, 0, none⟩) 12 12) ∧ w'.heap[g]? = some (.cells (u8s emptyL).toArray 5 (0, 0)) ∧ w.heap.size ≤ g ∧ Below w.heap.size w w' := by
  go_enter Try.func26, Try.ntmps26
  go_wp2
  go_ret
  exact ⟨_, rfl, heap_alloc_new _ _, Nat.le_refl _, (Below.refl _ _).alloc (Nat.le_refl _) _⟩
theorem scan_empty7 : Fr.scanF (emptyL ++ emptyL.take 7) = ([[]], 12, 1) := by kernel_rfl
theorem sum_nine : (Fr.sumB [49, 50, 51, 52, 53, 54, 55, 56, 57]).toNat = 3421780262 := by kernel_rfl
theorem put_none : Fr.putF [] = emptyL := by kernel_rfl
theorem scan_odd : Fr.scanF (emptyL.set 11 1) = ([], 0, 2) := by kernel_rfl
theorem scan_one : Fr.scanF [1, 0, 0, 0, 0, 0, 0, 0] = ([], 0, 2) := by kernel_rfl
theorem sum_none : (Fr.sumB []).toNat = 0 := by kernel_rfl
set_option maxRecDepth 100000 in
set_option maxHeartbeats 1000000 in
theorem awake_any (w : World) : Calls Try.prog 19 #[] w fun e w' => e = .returned (.bool true) ∧ Below w.heap.size w w' := by
  go_enter Try.func19, Try.ntmps19
  go_wp2_with fail
  refine (Put_any _ _ _ [] w (IsBytes.nil w) (by omega)).mono ?_
  rintro e w1 ⟨v1, rfl, hown1, hb1⟩
  rw [put_none] at hown1
  have HO1 := Lib.hid hown1
  have HB1 := Lib.hid hb1
  clear hown1 hb1
  go_wp2_with fail
  refine (empty_any w1).mono ?_
  rintro e w2 ⟨g1, rfl, hg1, hg1b, hb2⟩
  have hown2 : OwnB w2 g1 (.slice (some ⟨g1, 0, none⟩) 12 12) emptyL := OwnB_block hg1 (Nat.le_refl _) rfl (by unfold maxLen; omega)
  have HOWN2 := Lib.hid hown2
  have HB2 := Lib.hid (HB1.out.trans (hb2.mono HB1.out.size))
  have HO2 := Lib.hid (HO1.out.later hb2)
  have hw0 := hb2.size
  clear hg1 hb2 hown2
  go_wp2_with fail
  refine (empty_any w2).mono ?_
  rintro e w3 ⟨g2, rfl, hg2, hg2b, hb3⟩
  have hown3 : OwnB w3 g2 (.slice (some ⟨g2, 0, none⟩) 12 12) emptyL := OwnB_block hg2 (Nat.le_refl _) rfl (by unfold maxLen; omega)
  have hsl := slice_to hown3.reads 7 (by omega)
  have hslr := hsl.1
  have HS3 := Lib.hid hsl.2
  have HB3 := Lib.hid (HB2.out.trans (hb3.mono HB2.out.size))
  have HO3 := Lib.hid (HO2.out.later hb3)
  have HOWN3 := Lib.hid (HOWN2.out.later hb3)
  have hlt := (HOWN2.out.1.lt g1 rfl).2
  have hw23 := hb3.size
  clear hg2 hb3 hown3 hsl
  have hslr : ∀ w', (Instr.slice 22 (.slice (some ⟨g2, 0, none⟩) 12 12) none (some (.int .i64 7)) none).run Try.prog w' = .ok (.slice (some ⟨g2, 0, none⟩) 7 12) w' := hslr
  go_wp2_with (at_builtin; go_loud (refine wpList_append_bytes rfl _ _ rfl g1 _ emptyL rfl HOWN3.out _ 7 12 (emptyL.take 7) rfl HS3.out (by simp [emptyL]) (by have := HB3.out.size; omega) ?_; intro v4 w4 hown4 hg4))
  obtain ⟨ao4, cap4, rfl, hs4, -⟩ := hown4.bytes
  refine (Scan_any _ _ _ _ _ hs4 (by simp [emptyL])).mono ?_
  rintro e w5 ⟨v5, rfl, hl5, hb5⟩
  rw [scan_empty7] at hl5 ⊢
  have hb4 : Below w.heap.size w w4 := HB3.out.grown hg4 HB3.out.size (fun k hk => by injection hk with hk; have := HB1.out.size; have : g1 = k := hk; omega)
  have ho4 : OwnB w4 w.heap.size v1 emptyL := HO3.out.kept hg4 (fun g hg he => by injection he with he; have := (HO1.out.1.lt g hg).2; have : g = g1 := he; omega)
  have HB5 := Lib.hid (hb4.trans (hb5.mono hb4.size))
  have HO5 := Lib.hid (ho4.later hb5)
  obtain ⟨ao5, cap5, hv5, hr5⟩ := hl5.reads
  have hv5 : v5 = .slice ao5 1 cap5 := hv5
  subst hv5
  have HR5 := Lib.hid hr5
  clear hg4 hown4 hs4 hl5 hb5 hb4 ho4 hr5 hslr HB3 HB2 HO3 HO2 HS3 HOWN3 HOWN2
  go_wp2_with fail
  refine (empty_any w5).mono ?_
  rintro e w6 ⟨g6, rfl, hg6, hg6b, hb6⟩
  have hown6 : OwnB w6 g6 (.slice (some ⟨g6, 0, none⟩) 12 12) emptyL := OwnB_block hg6 (Nat.le_refl _) rfl (by unfold maxLen; omega)
  have HOWN6 := Lib.hid hown6.reads
  have HB6 := Lib.hid (HB5.out.trans (hb6.mono HB5.out.size))
  have HO6 := Lib.hid (HO5.out.later hb6)
  have HR6 := Lib.hid (HR5.out.later hb6)
  clear hg6 hb6 hown6
  obtain ⟨ao1, cap1, hv1, hr1, -⟩ := HO6.out.bytes
  have hv1 : v1 = .slice ao1 12 cap1 := hv1
  subst hv1
  have HR1 := Lib.hid hr1
  clear hr1
  go_wp2_with fail
  refine (SameBytes_any _ _ _ _ _ _ emptyL emptyL _ HR1.out HOWN6.out).mono ?_
  rintro e w7 ⟨rfl, rfl⟩
  rw [show (emptyL == emptyL) = true by simp]
  obtain ⟨b, off, aoi, ni, capi, rfl, hc, hbs⟩ := HR6.out.2.2.2.2 0 (by decide)
  have hni : ni = 0 := by have := hbs.1; simpa using this.symm
  subst hni
  have hc2 : w6.cell? ⟨b, off, none⟩ = some (.slice aoi 0 capi) := hc
  clear hbs
  go_wp2_with fail
  rw [Lib.run_convert_bytes_const w6 22 5 _ 9 9 Try.underlying22 Try.underlying5]
  go_wp2_with fail
  refine (Sum_any _ 9 9 [49, 50, 51, 52, 53, 54, 55, 56, 57] _ ?_).mono ?_
  · refine ⟨rfl, Nat.le_refl _, by unfold maxLen; omega, fun _ => ⟨_, _, rfl, fun i hi => ?_⟩, fun h => by cases h⟩
    rw [cell_of_row _ _ _ _ _ _ (heap_alloc_new w6 _), Nat.zero_add, List.getElem?_toArray]
    exact u8s_get [49, 50, 51, 52, 53, 54, 55, 56, 57] i hi
  rintro e w8 ⟨rfl, hb8⟩
  rw [sum_nine]
  go_wp2_with fail
  go_ret
  exact ⟨rfl, (HB6.out.alloc HB6.out.size _).trans (hb8.mono (by have := HB6.out.size; simp; omega))⟩
end Go.Proofs.Ytfpjbkbfaaieiaa
