/- apportionkit.LentInts, KeptInts, SameInts -/
import Derived.Test.YtmpjjkfbojhfoaaDActs
import Derived.Test.YtmpjjkfbojhfoaaLent
set_option linter.unusedSimpArgs false
set_option linter.unusedVariables false
namespace Go.Proofs.Ytmpjjkfbojhfoaa
open Go.RowKit
def iv (z : Int) : Value := .int .i64 z
def flatI (L : List Int) : List Value := L.map iv
theorem flatI_length (L : List Int) : (flatI L).length = L.length := by simp [flatI]
theorem flatI_one (L : List Int) : ∀ u ∈ flatI L, u.oneCell' = true := by
  intro u hu; simp only [flatI, List.mem_map] at hu; obtain ⟨c, _, rfl⟩ := hu; rfl
theorem flatI_get (L : List Int) (i : Nat) (h : i < L.length) : (flatI L)[i]? = some (.int .i64 (L.getD i 0)) := by
  simp [flatI, iv, List.getD_eq_getElem?_getD, h]
theorem IsInts.cells {w : World} {b off : Nat} {spot : Option Nat} {n cap : Nat} {l : List Int} (h : IsInts w (some ⟨b, off, spot⟩) n cap l) :
    ∀ j u, (flatI l)[j]? = some u → w.cell? ((⟨b, off, spot⟩ : Addr).add j) = some u := by
  intro j u hu
  have hj : j < l.length := by
    have := (List.getElem?_eq_some_iff.1 hu).1; rwa [flatI_length] at this
  rw [flatI_get l j hj] at hu
  cases hu
  obtain ⟨b', off', e, hc⟩ := h.2.2.2.1 (by have := h.1; omega)
  cases e
  have e2 : (⟨b, off, none⟩ : Addr).add j = ⟨b, off + j, none⟩ := by unfold Addr.add; split <;> simp_all
  rw [e2]
  exact hc j (by have := h.1; omega)
theorem Try.infoInt9 : (Try.prog.info? 3).map (fun i => (i.zero, i.size, i.bytes)) = some (some (.int .i64 0), 1, 8) := by kernel_rfl
theorem info_parts9 {i : Option TypeInfo} {z : Value} {s b : Nat} (h : i.map (fun i => (i.zero, i.size, i.bytes)) = some (some z, s, b)) : ∃ i0, i = some i0 ∧ i0.zero = some z ∧ i0.size = s ∧ i0.bytes = b := by
  cases i with
  | none => cases h
  | some i0 => simp at h; exact ⟨i0, rfl, h.1, h.2.1, h.2.2⟩
theorem eq_of_getDI {L M : List Int} (h : L.length = M.length) (hi : ∀ i, i < L.length → L.getD i 0 = M.getD i 0) : L = M := by
  apply List.ext_getElem?
  intro i
  by_cases h1 : i < L.length
  · have := hi i h1
    rw [List.getD_eq_getElem?_getD, List.getD_eq_getElem?_getD, List.getElem?_eq_getElem h1, List.getElem?_eq_getElem (by omega)] at this
    rw [List.getElem?_eq_getElem h1, List.getElem?_eq_getElem (by omega)]
    simpa using this
  · rw [List.getElem?_eq_none (by omega), List.getElem?_eq_none (by omega)]
set_option maxRecDepth 100000 in
theorem SameInts_any (ao bo : Option Addr) (n m cap cap2 : Nat) (L M : List Int) (w : World) (h1 : IsInts w ao n cap L) (h2 : IsInts w bo m cap2 M) :
    Calls Try.prog 78 #[.slice ao n cap, .slice bo m cap2] w fun e w' => e = .returned (.bool (L == M)) ∧ Below w.heap.size w w' := by
  obtain ⟨r, hr⟩ : ∃ r, r = (L == M) := ⟨_, rfl⟩
  rw [← hr]
  have HR := Lib.hid hr
  have HI1 := Lib.hid h1
  have HI2 := Lib.hid h2
  have hnc := h1.2.1
  have hmc := h2.2.1
  have hcm := h1.2.2.1
  have hcm2 := h2.2.2.1
  unfold maxLen at hcm hcm2
  have HL1 : Hid (L.length = n) := h1.1
  have HL2 : Hid (M.length = m) := h2.1
  by_cases hnm : n = m
  · subst hnm
    clear hr h1 h2
    go_enter Try.func78, Try.ntmps78
    go_wp2
    go_loopw [5] (fun i wr => ∃ k : Nat, k ≤ n ∧ i = .int .i64 k ∧ Hid (∀ j, j < k → L.getD j 0 = M.getD j 0) ∧ Hid (Below w.heap.size w wr)) (fun i _ => n - (intOf i).toNat)
    case atStart => exact ⟨0, by omega, rfl, fun j hj => absurd hj (by omega), Below.refl _ _⟩
    case round =>
      obtain ⟨k, hk, rfl, hall, hgr⟩ := hrel
      by_cases hlt : k < n
      · have hi0 : (0 : Int) ≤ (k : Int) := by omega
        have hi1 : (k : Int) < (n : Int) := by omega
        obtain ⟨b, off, rfl, hcs⟩ := (HI1.out.later hgr.out).2.2.2.1 (by omega)
        obtain ⟨b2, off2, rfl, hcs2⟩ := (HI2.out.later hgr.out).2.2.2.1 (by omega)
        have hc := hcs k hlt
        have hc2 := hcs2 k hlt
        obtain ⟨x, hx⟩ : ∃ x, x = L.getD k 0 := ⟨_, rfl⟩
        obtain ⟨y, hy⟩ : ∃ y, y = M.getD k 0 := ⟨_, rfl⟩
        rw [← hx] at hc
        rw [← hy] at hc2
        have HX := Lib.hid hx
        have HY := Lib.hid hy
        clear hcs hcs2 hx hy
        by_cases hxy : x = y
        · subst hxy
          go_wp2_with fail
          go_region
          go_wp2_with fail
          go_roundw
          case rel =>
            refine ⟨k + 1, by omega, by go_num, fun j hj => ?_, hgr.out.drew⟩
            by_cases hjk : j < k
            · exact hall.out j hjk
            · obtain rfl : j = k := by omega
              rw [← HX.out, ← HY.out]
          case measure => simp [intOf]; omega
        · have hb1 : (x == y) = false := by simpa using hxy
          have hb2 : (x != y) = true := by simpa using hxy
          have hrf : r = false := by
            rw [HR.out, beq_eq_false_iff_ne]
            rintro rfl
            exact hxy (by rw [HX.out, HY.out])
          have HRF := Lib.hid hrf
          clear hxy hrf
          go_wp2_with fail
          go_region
          go_wp2_with fail
          go_ret
          exact ⟨by rw [HRF.out]; rfl, hgr.out.drew⟩
      · obtain rfl : k = n := by omega
        have hrt : r = true := by
          rw [HR.out, beq_iff_eq]
          exact eq_of_getDI (by rw [HL1.out, HL2.out]) (fun i hi => hall.out i (by rw [← HL1.out]; exact hi))
        have HRT := Lib.hid hrt
        clear hrt
        go_wp2
        go_ret
        exact ⟨by rw [HRT.out]; rfl, hgr.out⟩
  · have hb1 : ((n : Int) == (m : Int)) = false := by simp; omega
    have hb2 : (n == m) = false := by simpa using hnm
    have hrf : r = false := by
      rw [hr, beq_eq_false_iff_ne]
      rintro rfl
      exact hnm (by rw [← HL1.out, ← HL2.out])
    have HRF := Lib.hid hrf
    clear hr h1 h2 hnm hrf
    go_enter Try.func78, Try.ntmps78
    go_wp2
    go_ret
    exact ⟨by rw [HRF.out]; rfl, Below.refl _ _⟩
def markI (i : Nat) : Int := -77 - (i : Int)
/-- a lent copy's bytes, k of its marks laid. -/
def lentI (l : List Int) (k : Nat) : List Int := (List.range (l.length + 3)).map fun i => if i < l.length then l.getD i 0 else if i < l.length + k then markI i else 0
theorem lentI_length (l : List Int) (k : Nat) : (lentI l k).length = l.length + 3 := by simp [lentI]
theorem lentI_get (l : List Int) (k i : Nat) (h : i < l.length + 3) : (lentI l k)[i]? = some (if i < l.length then l.getD i 0 else if i < l.length + k then markI i else 0) := by
  unfold lentI
  rw [List.getElem?_map, List.getElem?_range h]; rfl
theorem lentI_set (l : List Int) (k : Nat) (h : k < 3) : (flatI (lentI l k)).toArray.setIfInBounds (l.length + k) (iv (markI (l.length + k))) = (flatI (lentI l (k + 1))).toArray := by
  apply Array.ext_getElem?
  intro i
  rw [Array.getElem?_setIfInBounds]
  by_cases hi : i < l.length + 3
  · simp only [List.getElem?_toArray, flatI, List.getElem?_map, lentI_get _ _ _ hi, Option.map_some, List.size_toArray, List.length_map, lentI_length]
    by_cases hik : l.length + k = i
    · subst hik; simp [h, show ¬ l.length + k < l.length by omega]
    · simp only [hik, if_false]
      by_cases h1 : i < l.length
      · simp [h1]
      · by_cases h2 : i < l.length + k
        · simp [h1, h2, show i < l.length + (k + 1) by omega]
        · simp [h1, h2, show ¬ i < l.length + (k + 1) by omega]
  · rw [if_neg (by omega)]
    simp [flatI, lentI, hi]
theorem lentI_take (l : List Int) (k : Nat) : (lentI l k).take l.length = l := by
  apply List.ext_getElem?
  intro i
  rw [List.getElem?_take]
  by_cases h : i < l.length
  · rw [if_pos h, lentI_get _ _ _ (by omega), if_pos h]
    simp [List.getD_eq_getElem?_getD, h]
  · rw [if_neg h, List.getElem?_eq_none (by omega)]
theorem lentI_start (l : List Int) : splice (List.replicate (l.length + 3) (Value.int .i64 0)) 0 (flatI l) = flatI (lentI l 0) := by
  have hz : (Value.int .i64 0) = iv 0 := rfl
  apply List.ext_getElem?
  intro i
  unfold splice
  by_cases h : i < l.length
  · simp only [List.take_zero, List.nil_append, Nat.zero_add]
    rw [List.getElem?_append_left (by rw [flatI_length]; exact h)]
    simp only [flatI, List.getElem?_map, lentI_get l 0 i (by omega), if_pos h, Option.map_some]
    simp [List.getD_eq_getElem?_getD, h]
  · simp only [List.take_zero, List.nil_append, Nat.zero_add]
    rw [List.getElem?_append_right (by rw [flatI_length]; omega), flatI_length]
    by_cases h3 : i < l.length + 3
    · simp only [flatI, List.getElem?_map, lentI_get l 0 i h3, if_neg h, Option.map_some]
      rw [List.getElem?_drop, List.getElem?_replicate]
      simp [h, hz]; omega
    · rw [List.getElem?_drop, List.getElem?_replicate]
      simp [flatI, lentI, h3]; omega
theorem made_zeroI (n : Nat) : (madeCells (Value.int .i64 0).cells (n * 1)).toList = List.replicate n (Value.int .i64 0) := by
  apply List.ext_getElem?
  intro i
  simp only [madeCells, Nat.mul_one, Array.toList_map, Array.toList_range, List.getElem?_map, List.getElem?_replicate]
  by_cases h : i < n
  · rw [List.getElem?_range h]; simp [Value.cells, h, Nat.mod_one]
  · rw [List.getElem?_eq_none (by simpa using h)]; simp [h]
/-- 'copy(full, src)' into the head of a block of the call's own. -/
theorem run_copy_ints {w : World} (ty g dLen dCap : Nat) (ao : Option Addr) (m c : Nat) (l : List Int) (cur : List Value) (t : Nat) (hs : IsInts w ao m c l) (hm : m ≤ dLen) (hg : w.heap[g]? = some (.cells cur.toArray t (0, 0))) (hfit : m ≤ cur.length) :
    ∃ w', (Builtin.copy_ #[35, 35] ty #[.slice (some ⟨g, 0, none⟩) dLen dCap, .slice ao m c]).run Try.prog w = .ok (goInt m) w' ∧ w'.heap[g]? = some (.cells (splice cur 0 (flatI l)).toArray t (0, 0)) ∧ Below g w w' := by
  have hmin : Nat.min m dLen = m := Nat.min_eq_left hm
  have hz : (Try.prog.info? 3).map (·.size) = some 1 := by kernel_rfl
  cases ao with
  | none =>
    obtain ⟨rfl, rfl⟩ := hs.2.2.2.2 rfl
    obtain rfl : l = [] := List.eq_nil_of_length_eq_zero hs.1
    exact ⟨w, run_copy_none (P := Try.prog) w _ _ ty _ _ _ dLen dCap 0 0 Try.underlying35 hz (by rw [hmin]), by simpa [splice, flatI] using hg, Below.refl _ _⟩
  | some ad =>
    obtain ⟨b, off, spot⟩ := ad
    have h1 := run_copy_row (P := Try.prog) w 35 35 ty 3 g 0 dLen dCap ⟨b, off, spot⟩ m c cur.toArray t (flatI l) Try.underlying35 hz hg (by rw [flatI_length, hs.1, hmin]) hs.cells (by rw [flatI_length, hs.1]; simpa using hfit) (flatI_one l)
    rw [flatI_length, hs.1] at h1
    refine ⟨_, h1, ?_, ⟨rfl, rfl, rfl, by simp, fun k hk => setRow_other _ _ _ _ (by omega)⟩⟩
    rw [setRow_heap _ _ _ _ _ _ hg]
    simp [splice, flatI_length, hs.1]
set_option maxRecDepth 100000 in
set_option maxHeartbeats 400000 in
theorem LentInts_any (ao : Option Addr) (n cap : Nat) (l : List Int) (w : World) (hs : IsInts w ao n cap l) (hn : n ≤ 4294967296) :
    Calls Try.prog 65 #[.slice ao n cap] w fun e w' => ∃ g, e = .returned (.slice (some ⟨g, 0, none⟩) n (n + 3)) ∧ w.heap.size ≤ g ∧ w'.heap[g]? = some (.cells (flatI (lentI l 3)).toArray 3 (0, 0)) ∧ Below w.heap.size w w' := by
  obtain ⟨i0, hi, hz0, hz1, hz2⟩ := info_parts9 Try.infoInt9
  have hl := hs.1
  have hp : (0 : Int) ≤ (n : Int) := by omega
  have HL := Lib.hid hl
  clear hl
  go_enter Try.func65, Try.ntmps65
  go_wp2_with (at_make; refine wpList_make_full _ rfl _ _ 35 rfl w.heap.size 3 i0 (.int .i64 0) 1 Try.underlying35 hi hz0 hz1 _ _ _ _ (n + 3) rfl rfl (by omega) (by omega) (by rw [hz2]; omega) (by unfold maxLen; omega) (Nat.le_refl _) ?_; intro w1 hown1 hg1)
  have hg : w1.heap[w.heap.size]? = some (.cells (List.replicate (n + 3) (Value.int .i64 0)).toArray 3 (0, 0)) := by
    rcases hown1.2 with ⟨h, _⟩ | ⟨g, cap2, cur, he, _, hgg, _, _, hsz, ht⟩
    · cases h
    · injection he with he1 he2 he3
      injection he1 with he1
      injection he1 with he1
      subst he1
      rw [hgg]
      have e : cur.toList = List.replicate (n + 3) (Value.int .i64 0) := by
        rw [← made_zeroI, ← ht, List.take_of_length_le (by simp; omega)]
      rw [← e]
  have hb1 : Below w.heap.size w w1 := (Below.refl _ _).grown hg1 (Nat.le_refl _) (fun k hk => by cases hk)
  have hs1 := hs.later hb1
  obtain ⟨g, hgd⟩ : ∃ g, g = w.heap.size := ⟨_, rfl⟩
  rw [← hgd] at hg hb1 ⊢
  have HG := Lib.hid hg
  have HS := Lib.hid hs1
  have HB := Lib.hid hb1
  have HGD := Lib.hid hgd
  clear hg hown1 hs1 hb1 hgd hg1 hs
  obtain ⟨w2, hcp, hg2, hb2⟩ := run_copy_ints 3 g (n + 3) (n + 3) ao n cap l _ _ HS.out (by omega) HG.out (by simp)
  rw [show (List.replicate (n + 3) (Value.int .i64 0)) = List.replicate (l.length + 3) (Value.int .i64 0) by rw [HL.out], lentI_start] at hg2
  have hb3 := HB.out.trans hb2
  have HG2 := Lib.hid hg2
  have HB3 := Lib.hid hb3
  clear hg2 hb3 hb2
  rw [hcp]
  clear hcp
  go_wp2
  go_loopw [4] (fun i wr => ∃ k : Nat, k ≤ 3 ∧ i = .int .i64 ((n : Int) + (k : Int)) ∧ Hid (wr.heap[g]? = some (.cells (flatI (lentI l k)).toArray 3 (0, 0))) ∧ Hid (Below g w wr)) (fun i _ => n + 3 - (intOf i).toNat)
  case atStart => exact ⟨0, by omega, by simp, HG2, HB3⟩
  case round =>
    obtain ⟨k, hk, rfl, hgk, hbk⟩ := hrel
    by_cases hlt : k < 3
    · obtain ⟨x, hx⟩ : ∃ x, lentI l k = x := ⟨_, rfl⟩
      have hxl : (lentI l k).length = n + 3 := by rw [lentI_length, HL.out]
      have hcell : wr.cell? ⟨g, n + k, none⟩ = some (.int .i64 ((lentI l k).getD (n + k) 0)) := by
        rw [cell_of_row _ _ _ _ _ _ hgk.out]
        simp only [List.getElem?_toArray]
        exact flatI_get _ _ (by omega)
      have hf : wr.frozen? ⟨g, n + k, none⟩ = false := frozen_of_row _ _ _ _ _ hgk.out
      have hset : (flatI (lentI l k)).toArray.setIfInBounds (n + k) (.int .i64 (-77 - ((n : Int) + (k : Int)))) = (flatI (lentI l (k + 1))).toArray := by
        have h1 := lentI_set l k hlt
        rw [HL.out] at h1
        rw [← h1]
        congr 1
      obtain ⟨c, hc⟩ : ∃ c, c = (lentI l k).getD (n + k) 0 := ⟨_, rfl⟩
      rw [← hc] at hcell
      have HSET := Lib.hid hset
      clear hx hxl hset hc
      go_wp2
      go_roundw
      case rel =>
        refine ⟨k + 1, by omega, (by congr 1 <;> omega), ?_, hbk.out.setCell (Nat.le_refl _) _⟩
        have := heap_setCell_same wr g (n + k) _ _ (.int .i64 (-77 - ((n : Int) + (k : Int)))) hgk.out
        rw [HSET.out] at this
        exact this
      case measure => simp [intOf]; omega
    · obtain rfl : k = 3 := by omega
      go_wp2
      go_ret
      refine ⟨g, rfl, by have := HGD.out; omega, hgk.out, ?_⟩
      rw [← HGD.out]
      exact hbk.out
theorem block_IsInts {w : World} {g : Nat} {l : List Int} (hg : w.heap[g]? = some (.cells (flatI l).toArray 3 (0, 0))) (hm : l.length ≤ maxLen) : IsInts w (some ⟨g, 0, none⟩) l.length l.length l := by
  refine ⟨rfl, Nat.le_refl _, hm, fun _ => ⟨g, 0, rfl, fun i hi => ?_⟩, fun h => by cases h⟩
  rw [cell_of_row _ _ _ _ _ _ hg, List.getElem?_toArray, Nat.zero_add]
  exact flatI_get l i hi
theorem slice_fullI (n : Nat) (g : Nat) (w' : World) : (Instr.slice 35 (.slice (some ⟨g, 0, none⟩) n (n + 3)) none (some (.int .i64 ((n : Int) + 3))) none).run Try.prog w' = .ok (.slice (some ⟨g, 0, none⟩) (n + 3) (n + 3)) w' := by
  obtain ⟨i0, hi0, hz0, hz1, hz2⟩ := info_parts9 Try.infoInt9
  have e1 : (Instr.sliceBounds true n (n + 3) none (some (.int .i64 ((n : Int) + 3))) none).run Try.prog w' = .ok (0, n + 3, n + 3) w' := by
    have h0 : (0 : Int) ≤ (n : Int) + 3 := by omega
    have h1 : ((n : Int) + 3).toNat = n + 3 := by omega
    simp [Instr.sliceBounds, Instr.sliceBound, asIntOf, h0, h1]
  simp [Instr.slice, run_underlying Try.underlying35, e1, sizeOf, typeInfo, hi0, Result.andThen, Addr.add]
set_option maxRecDepth 100000 in
set_option maxHeartbeats 1000000 in
theorem KeptInts_any (g n : Nat) (full : List Int) (bo : Option Addr) (cap2 : Nat) (l : List Int) (w : World) (hg : w.heap[g]? = some (.cells (flatI full).toArray 3 (0, 0))) (hf : full.length = n + 3)
    (hs : IsInts w bo n cap2 l) (hn : n ≤ 4294967296) :
    Calls Try.prog 67 #[.slice (some ⟨g, 0, none⟩) n (n + 3), .slice bo n cap2] w fun e w' => e = .returned (.bool (full == lentI l 3)) ∧ Below w.heap.size w w' := by
  have hp : (0 : Int) ≤ (n : Int) := by omega
  have heq : ((n : Int) == (n : Int)) = true := by simp
  have hbf : IsInts w (some ⟨g, 0, none⟩) (n + 3) (n + 3) full := by have := block_IsInts hg (by rw [hf]; unfold maxLen; omega); rwa [hf] at this
  have hsl1 := slice_fullI n
  have hp3 : (0 : Int) ≤ (n : Int) + 3 := by omega
  have hw3 : IntKind.i64.wrap ((n : Int) + 3) = (n : Int) + 3 := IntWalk.i64_in _ (by omega)
  have HBF := Lib.hid hbf
  have HS := Lib.hid hs
  have HF := Lib.hid hf
  clear hbf hs hf hg
  go_enter Try.func67, Try.ntmps67
  go_wp2_with fail
  go_region_held3 (fun w' => IsInts w' bo n cap2 l ∧ IsInts w' (some ⟨g, 0, none⟩) (n + 3) (n + 3) full ∧ Below w.heap.size w w')
    (first
      | (exact ⟨HS.out, HBF.out, (Below.refl _ _).drew⟩)
      | (go_split_ands
         refine ⟨?_, ?_, ?_⟩
         · first | assumption | exact IsInts.later (by assumption) hb1
         · first | assumption | exact IsInts.later (by assumption) hb1
         · first | assumption | exact Below.trans (by assumption) hb1 | exact Below.trans (by assumption) (hb1.mono (Below.size (by assumption)))))
    (first
      | (go_at_call 65; go_split_ands; refine (LentInts_any _ _ _ l _ (by assumption) hn).mono ?_; rintro e w1 ⟨g1, rfl, hg1, hh1, hb1⟩)
      | (go_at_call 78; go_split_ands; refine (SameInts_any _ _ _ _ _ _ full (lentI l 3) _ (by assumption) (by have := block_IsInts hh1 (by rw [lentI_length, HS.out.1]; unfold maxLen; omega); rwa [lentI_length, HS.out.1] at this)).mono ?_; rintro e w2 ⟨rfl, hb1⟩))
  all_goals
    go_split_ands
    have hbw : Below w.heap.size w w2 := by assumption
    have HBW := Lib.hid hbw
    clear hbw
    go_wp2_with fail
    go_ret
    exact ⟨rfl, HBW.out⟩
end Go.Proofs.Ytmpjjkfbojhfoaa
