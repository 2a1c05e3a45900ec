/- apportionlaw06.FrameLong -/
import Derived.Test.YtfpjbkbfaaieiaaPuts
namespace Go.Proofs.Ytfpjbkbfaaieiaa
open Go.RowKit
theorem wf_byte {a : Int} (h : (Lit.int .u8 a).wf = true) : ∃ c : UInt8, a = (c.toNat : Int) := by
  simp only [Lit.wf, decide_eq_true_eq, Bool.and_eq_true] at h
  have hb : 0 ≤ a ∧ a ≤ 255 := h
  refine ⟨UInt8.ofNat a.toNat, ?_⟩
  rw [UInt8.toNat_ofNat']
  omega
theorem wf_int {a : Int} (h : (Lit.int .i64 a).wf = true) : -9223372036854775808 ≤ a ∧ a ≤ 9223372036854775807 := by
  simp only [Lit.wf, decide_eq_true_eq, Bool.and_eq_true] at h
  exact h
/-- a record of N bytes, all nought but the last. -/
def longL (N : Nat) (c : UInt8) : List UInt8 := (List.replicate N 0).set (N - 1) c
theorem longL_length (N : Nat) (c : UInt8) : (longL N c).length = N := by simp [longL]
theorem longL_cells (N : Nat) (c : UInt8) : (List.replicate N (Value.int .u8 0)).toArray.setIfInBounds (N - 1) (.int .u8 (c.toNat : Int)) = (u8s (longL N c)).toArray := by
  unfold u8s longL
  rw [List.map_set, List.map_replicate, List.setIfInBounds_toArray]
  rfl
theorem scan_putR (l : List UInt8) : Fr.scanF (putR l) = if l.length ≤ 65536 then ([l], l.length + 12, 0) else ([], 0, 0) := by
  unfold putR
  split
  · rename_i h
    have := Fr.scanF_put l [] h
    rw [List.append_nil] at this
    rw [this, Fr.scanF_nil]
    simp
  · exact Fr.scanF_nil
theorem made_block {w w1 : World} {N : Nat} (hown1 : w1.ownsRow w.heap.size 5 1 (.slice (some ⟨w.heap.size, 0, none⟩) N N) N (madeCells (Value.int .u8 0).cells (N * 1)).toList) (hg1 : w.grownBy w1 none) :
    w1.heap[w.heap.size]? = some (.cells (List.replicate N (Value.int .u8 0)).toArray 5 (0, 0)) ∧ Below w.heap.size w w1 := by
  refine ⟨?_, (Below.refl _ _).grown hg1 (Nat.le_refl _) (fun k hk => by cases hk)⟩
  rcases hown1.2 with ⟨h, _⟩ | ⟨g, cap2, cur, he, _, hgg, _, _, hsz, ht⟩
  · cases h
  · injection he with he1 he2 he3
    injection he1 with he1
    injection he1 with he1
    subst he1
    rw [hgg]
    have e : cur.toList = List.replicate N (Value.int .u8 0) := by
      rw [← made_zero, ← ht, List.take_of_length_le (by simp; omega)]
    rw [← e]
theorem made_cell {w1 : World} {g N k : Nat} (hg : w1.heap[g]? = some (.cells (List.replicate N (Value.int .u8 0)).toArray 5 (0, 0))) (h : k < N) : w1.cell? ⟨g, k, none⟩ = some (.int .u8 0) := by
  rw [cell_of_row _ _ _ _ _ _ hg, List.getElem?_toArray, List.getElem?_replicate, if_pos h]
set_option maxRecDepth 100000 in
set_option maxHeartbeats 1000000 in
theorem FrameLong_any (w : World) (a0 : Int) (h0 : (Lit.int .i64 a0).wf = true) (a1 : Int) (h1 : (Lit.int .u8 a1).wf = true) :
    Calls Try.prog 5 #[.int .i64 a0, .int .u8 a1] w fun e w' => e = .returned (.bool true) ∧ Below w.heap.size w w' := by
  obtain ⟨hx0, hx1⟩ := wf_int h0
  obtain ⟨c, rfl⟩ := wf_byte h1
  obtain ⟨i0, hi, hz0, hz1, hz2⟩ := info_parts Try.infoByte
  obtain ⟨M, hM⟩ : ∃ M : Nat, a0 % 100 = (M : Int) := ⟨(a0 % 100).toNat, by omega⟩
  have hM2 : M < 100 := by omega
  clear h0 h1
  go_enter Try.func5, Try.ntmps5
  go_wp2_with fail
  refine (Pick_any a0 100 w hx0 hx1 (by omega) (by omega)).mono ?_
  rintro e w' ⟨rfl, rfl⟩
  rw [hM]
  clear hM
  have hp0 : (0 : Int) ≤ 65500 + (M : Int) := by omega
  go_wp2_with (at_make; refine wpList_make_full _ rfl _ _ 22 rfl w.heap.size 5 i0 (.int .u8 0) 1 Try.underlying22 hi hz0 hz1 _ _ _ _ (65500 + M) rfl rfl (by omega) (by omega) (by rw [hz2]; omega) (by unfold maxLen; omega) (Nat.le_refl _) ?_; intro w1 hown1 hg1
               have hmb := made_block hown1 hg1
               have hfr : w1.frozen? ⟨w.heap.size, 65499 + M, none⟩ = false := frozen_of_row _ _ _ _ _ hmb.1
               have hcell : w1.cell? ⟨w.heap.size, 65499 + M, none⟩ = some (.int .u8 0) := made_cell hmb.1 (by omega)
               have HMB := Lib.hid hmb
               clear hmb hown1 hg1)
  have hset := heap_setCell_same w1 w.heap.size (65500 + M - 1) _ _ (.int .u8 (c.toNat : Int)) HMB.out.1
  rw [longL_cells] at hset
  have hb2 : Below w.heap.size w (w1.setCell ⟨w.heap.size, 65500 + M - 1, none⟩ (.int .u8 (c.toNat : Int))) := HMB.out.2.setCell (Nat.le_refl _) _
  rw [show 65500 + M - 1 = 65499 + M by omega] at hset hb2
  have hsb : IsBytes (w1.setCell ⟨w.heap.size, 65499 + M, none⟩ (.int .u8 (c.toNat : Int))) (some ⟨w.heap.size, 0, none⟩) (65500 + M) (65500 + M) (longL (65500 + M) c) := by
    have := block_IsBytes hset (by rw [longL_length]; unfold maxLen; omega)
    rwa [longL_length] at this
  clear hset hfr hcell HMB
  obtain ⟨w2, hw2⟩ : ∃ w2, w2 = w1.setCell ⟨w.heap.size, 65499 + M, none⟩ (.int .u8 (c.toNat : Int)) := ⟨_, rfl⟩
  rw [← hw2] at hb2 hsb ⊢
  obtain ⟨l, hl⟩ : ∃ l, l = longL (65500 + M) c := ⟨_, rfl⟩
  have hll : l.length = 65500 + M := by rw [hl, longL_length]
  rw [← hl] at hsb
  have HB2 := Lib.hid hb2
  have HS2 := Lib.hid hsb
  have HLL := Lib.hid hll
  obtain ⟨E, hE⟩ : ∃ E, E = putE l := ⟨_, rfl⟩
  obtain ⟨R, hR⟩ : ∃ R, R = putR l := ⟨_, rfl⟩
  have hsc := scan_putR l
  rw [← hR] at hsc
  have HE := Lib.hid hE
  have HR := Lib.hid hR
  have HSC := Lib.hid hsc
  clear hw2 hl hb2 hsb hE hR hsc hll
  refine (Put_both _ _ _ l w2 HS2.out (by omega)).mono ?_
  rintro e w3 ⟨v3, rfl, ho3, hb3⟩
  rw [← HR.out] at ho3
  rw [← HE.out]
  have HO3 := Lib.hid ho3
  have HS3 := Lib.hid (HS2.out.later hb3)
  have HB3 := Lib.hid (HB2.out.trans (hb3.mono HB2.out.size))
  clear ho3 hb3
  go_wp2_with fail
  refine (refPut_both _ _ _ l w3 HS3.out (by omega)).mono ?_
  rintro e w4 ⟨v4, rfl, ho4, hb4⟩
  rw [← HR.out] at ho4
  rw [← HE.out]
  obtain ⟨a3, c3, rfl, hr3, -⟩ := (HO3.out.later hb4).bytes
  obtain ⟨a4, c4, rfl, hr4, -⟩ := ho4.bytes
  have HS4 := Lib.hid (HS3.out.later hb4)
  have HB4 := Lib.hid (HB3.out.trans (hb4.mono HB3.out.size))
  have HR3 := Lib.hid hr3
  have HR4 := Lib.hid hr4
  clear hr3 hr4 ho4 hb4
  have hrl : R.length ≤ 4294967296 := by
    rw [HR.out]; unfold putR
    split
    · rw [Fr.putF_length, HLL.out]; omega
    · simp
  go_wp2_with fail
  refine (Scan_any _ _ _ R w4 HR3.out hrl).mono ?_
  rintro e w5 ⟨v5, rfl, hl5, hb5⟩
  obtain ⟨ax, cx, rfl, hx5⟩ := hl5.reads
  have HX5 := Lib.hid hx5
  have HS5 := Lib.hid (HS4.out.later hb5)
  have HR35 := Lib.hid (HR3.out.later hb5)
  have HR45 := Lib.hid (HR4.out.later hb5)
  have HB5 := Lib.hid (HB4.out.trans (hb5.mono HB4.out.size))
  clear hl5 hx5 hb5
  have hEE : (E == E) = true := by simp
  have hlp : (0 : Int) ≤ (M : Int) := by omega
  by_cases hcase : 65500 + M ≤ 65536
  · have hrlen : R.length = 65512 + M := by
      rw [HR.out]; unfold putR
      rw [if_pos (by rw [HLL.out]; exact hcase), Fr.putF_length, HLL.out]; omega
    have hsc := HSC.out
    rw [if_pos (by rw [HLL.out]; exact hcase), HLL.out] at hsc
    rw [hsc] at HX5 ⊢
    have HX5 : Hid (IsLists w5 ax 1 cx [l]) := HX5
    rw [hrlen] at HR35 HR45 ⊢
    have e1 : (Value.slice ax ([l], 65500 + M + 12, 0).1.length cx) = .slice ax 1 cx := rfl
    have e2 : ((((([l] : List (List UInt8)), 65500 + M + 12, 0).2.1 : Nat)) : Int) = ((65512 + M : Nat) : Int) := by simp; omega
    rw [e1, e2]
    clear HSC hrl e1 e2 hsc
    go_wp2_with fail
    refine (SameBytes_any _ _ _ _ _ _ R R _ HR35.out HR45.out).mono ?_
    rintro e w6 ⟨rfl, rfl⟩
    rw [show (R == R) = true by simp]
    go_wp2_with fail
    refine (awake_any w5).mono ?_
    rintro e w7 ⟨rfl, hb7⟩
    obtain ⟨b, off, aoi, ni, capi, rfl, hc, hbs⟩ := (HX5.out.later hb7).2.2.2.2 0 (by omega)
    have hc2 : w7.cell? ⟨b, off, none⟩ = some (.slice aoi ni capi) := hc
    have HBS : Hid (IsBytes w7 aoi ni capi l) := hbs
    have HS7 := Lib.hid (HS5.out.later hb7)
    have HB7 := Lib.hid (HB5.out.trans (hb7.mono HB5.out.size))
    have hz : ((65512 + (M : Int)) == 0) = false := by simp; omega
    have hz2 : ¬ (65512 + (M : Int)) = 0 := by omega
    clear hb7 hbs
    go_wp2_with fail
    refine (SameBytes_any _ _ _ _ _ _ l l _ HBS.out HS7.out).mono ?_
    rintro e w8 ⟨rfl, rfl⟩
    rw [show (l == l) = true by simp]
    go_wp2_with fail
    go_ret
    exact ⟨rfl, HB7.out⟩
  · have hR0 : R = [] := by
      rw [HR.out]; unfold putR
      rw [if_neg (by rw [HLL.out]; exact hcase)]
    subst hR0
    have hsc : Fr.scanF [] = ([], 0, 0) := Fr.scanF_nil
    rw [hsc] at HX5 ⊢
    clear HSC hrl hsc
    go_wp2_with fail
    refine (SameBytes_any _ _ _ _ _ _ [] [] _ HR35.out HR45.out).mono ?_
    rintro e w6 ⟨rfl, rfl⟩
    rw [show (([] : List UInt8) == []) = true by simp]
    go_wp2_with fail
    refine (awake_any w5).mono ?_
    rintro e w7 ⟨rfl, hb7⟩
    go_wp2_with fail
    go_ret
    exact ⟨rfl, HB5.out.trans (hb7.mono HB5.out.size)⟩
end Go.Proofs.Ytfpjbkbfaaieiaa
