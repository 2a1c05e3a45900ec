/- apportionkit.LentBytes, KeptBytes -/
import Derived.Test.YtjkkfjmloleedaaGreatOver
import Derived.Laws.CopyOwn
import Derived.Deep.RegionWith
import Derived.Deep.RegionHeld3
import Derived.Test.YtjkkfjmloleedaaGreatRefPut
namespace Go.Proofs.YtjkkfjmloleedaaGreat
open Go.RowKit
def mark (i : Nat) : UInt8 := UInt8.ofNat (160 + i % 90)
/-- a lent copy's bytes, k of its marks laid. -/
def lentA (l : List UInt8) (k : Nat) : List UInt8 := (List.range (l.length + 3)).map fun i => if i < l.length then l.getD i 0 else if i < l.length + k then mark i else 0
theorem lentA_length (l : List UInt8) (k : Nat) : (lentA l k).length = l.length + 3 := by simp [lentA]
theorem lentA_get (l : List UInt8) (k i : Nat) (h : i < l.length + 3) : (lentA l k)[i]? = some (if i < l.length then l.getD i 0 else if i < l.length + k then mark i else 0) := by
  unfold lentA
  rw [List.getElem?_map, List.getElem?_range h]; rfl
theorem lentA_set (l : List UInt8) (k : Nat) (h : k < 3) : (u8s (lentA l k)).toArray.setIfInBounds (l.length + k) (u8 (mark (l.length + k))) = (u8s (lentA l (k + 1))).toArray := by
  apply Array.ext_getElem?
  intro i
  rw [Array.getElem?_setIfInBounds]
  by_cases hi : i < l.length + 3
  · simp only [List.getElem?_toArray, u8s, List.getElem?_map, lentA_get _ _ _ hi, Option.map_some, List.size_toArray, List.length_map, lentA_length]
    by_cases hik : l.length + k = i
    · subst hik; simp [h, show ¬ l.length + k < l.length by omega]
    · simp only [hik, if_false]
      by_cases h1 : i < l.length
      · simp [h1]
      · by_cases h2 : i < l.length + k
        · simp [h1, h2, show i < l.length + (k + 1) by omega]
        · simp [h1, h2, show ¬ i < l.length + (k + 1) by omega]
  · rw [if_neg (by omega)]
    simp [u8s, lentA, hi]
theorem lentA_take (l : List UInt8) (k : Nat) : (lentA l k).take l.length = l := by
  apply List.ext_getElem?
  intro i
  rw [List.getElem?_take]
  by_cases h : i < l.length
  · rw [if_pos h, lentA_get _ _ _ (by omega), if_pos h]
    simp [List.getD_eq_getElem?_getD, h]
  · rw [if_neg h, List.getElem?_eq_none (by omega)]
theorem lentA_start (l : List UInt8) : splice (List.replicate (l.length + 3) (Value.int .u8 0)) 0 (u8s l) = u8s (lentA l 0) := by
  have hz : (Value.int .u8 0) = u8 0 := rfl
  apply List.ext_getElem?
  intro i
  unfold splice
  by_cases h : i < l.length
  · simp only [List.take_zero, List.nil_append, Nat.zero_add]
    rw [List.getElem?_append_left (by rw [u8s_length]; exact h)]
    simp only [u8s, List.getElem?_map, lentA_get l 0 i (by omega), if_pos h, Option.map_some]
    simp [List.getD_eq_getElem?_getD, h]
  · simp only [List.take_zero, List.nil_append, Nat.zero_add]
    rw [List.getElem?_append_right (by rw [u8s_length]; omega), u8s_length]
    by_cases h3 : i < l.length + 3
    · simp only [u8s, List.getElem?_map, lentA_get l 0 i h3, if_neg h, Option.map_some]
      rw [List.getElem?_drop, List.getElem?_replicate]
      simp [h, hz]; omega
    · rw [List.getElem?_drop, List.getElem?_replicate]
      simp [u8s, lentA, h3]; omega
theorem made_zero (n : Nat) : (madeCells (Value.int .u8 0).cells (n * 1)).toList = List.replicate n (Value.int .u8 0) := by
  apply List.ext_getElem?
  intro i
  simp only [madeCells, Nat.mul_one, Array.toList_map, Array.toList_range, List.getElem?_map, List.getElem?_replicate]
  by_cases h : i < n
  · rw [List.getElem?_range h]; simp [Value.cells, h, Nat.mod_one]
  · rw [List.getElem?_eq_none (by simpa using h)]; simp [h]
/-- 'copy(full, src)' into the head of a block of the call's own. -/
theorem run_copy_bytes {w : World} (ty g dLen dCap : Nat) (ao : Option Addr) (m c : Nat) (l : List UInt8) (cur : List Value) (t : Nat) (hs : IsBytes w ao m c l) (hm : m ≤ dLen) (hg : w.heap[g]? = some (.cells cur.toArray t (0, 0))) (hfit : m ≤ cur.length) :
    ∃ w', (Builtin.copy_ #[36, 36] ty #[.slice (some ⟨g, 0, none⟩) dLen dCap, .slice ao m c]).run Tryz.prog w = .ok (goInt m) w' ∧ w'.heap[g]? = some (.cells (splice cur 0 (u8s l)).toArray t (0, 0)) ∧ Below g w w' := by
  have hmin : Nat.min m dLen = m := Nat.min_eq_left hm
  have hz : (Tryz.prog.info? 5).map (·.size) = some 1 := by kernel_rfl
  cases ao with
  | none =>
    obtain ⟨rfl, rfl⟩ := hs.2.2.2.2 rfl
    obtain rfl : l = [] := List.eq_nil_of_length_eq_zero hs.1
    exact ⟨w, run_copy_none (P := Tryz.prog) w _ _ ty _ _ _ dLen dCap 0 0 Tryz.underlying36 hz (by rw [hmin]), by simpa [splice, u8s] using hg, Below.refl _ _⟩
  | some ad =>
    obtain ⟨b, off, spot⟩ := ad
    have h1 := run_copy_row (P := Tryz.prog) w 36 36 ty 5 g 0 dLen dCap ⟨b, off, spot⟩ m c cur.toArray t (u8s l) Tryz.underlying36 hz hg (by rw [u8s_length, hs.1, hmin]) hs.cells (by rw [u8s_length, hs.1]; simpa using hfit) (u8s_one l)
    rw [u8s_length, hs.1] at h1
    refine ⟨_, h1, ?_, ⟨rfl, rfl, rfl, by simp, fun k hk => setRow_other _ _ _ _ (by omega)⟩⟩
    rw [setRow_heap _ _ _ _ _ _ hg]
    simp [splice, u8s_length, hs.1]
set_option maxRecDepth 100000 in
set_option maxHeartbeats 400000 in
theorem LentBytes_any (ao : Option Addr) (n cap : Nat) (l : List UInt8) (w : World) (hs : IsBytes w ao n cap l) (hn : n ≤ 4294967296) :
    Calls Tryz.prog 12 #[.slice ao n cap] w fun e w' => ∃ g, e = .returned (.slice (some ⟨g, 0, none⟩) n (n + 3)) ∧ w.heap.size ≤ g ∧ w'.heap[g]? = some (.cells (u8s (lentA l 3)).toArray 5 (0, 0)) ∧ Below w.heap.size w w' := by
  obtain ⟨i0, hi, hz0, hz1, hz2⟩ := info_parts Tryz.infoByte
  have hl := hs.1
  have hp : (0 : Int) ≤ (n : Int) := by omega
  have HL := Lib.hid hl
  clear hl
  go_enter Tryz.func12, Tryz.ntmps12
  go_wp2_with (at_make; refine wpList_make_full _ rfl _ _ 36 rfl w.heap.size 5 i0 (.int .u8 0) 1 Tryz.underlying36 hi hz0 hz1 _ _ _ _ (n + 3) rfl rfl (by omega) (by omega) (by rw [hz2]; omega) (by unfold maxLen; omega) (Nat.le_refl _) ?_; intro w1 hown1 hg1)
  have hg : w1.heap[w.heap.size]? = some (.cells (List.replicate (n + 3) (Value.int .u8 0)).toArray 5 (0, 0)) := by
    rcases hown1.2 with ⟨h, _⟩ | ⟨g, cap2, cur, he, _, hgg, _, _, hsz, ht⟩
    · cases h
    · injection he with he1 he2 he3
      injection he1 with he1
      injection he1 with he1
      subst he1
      rw [hgg]
      have e : cur.toList = List.replicate (n + 3) (Value.int .u8 0) := by
        rw [← made_zero, ← ht, List.take_of_length_le (by simp; omega)]
      rw [← e]
  have hb1 : Below w.heap.size w w1 := (Below.refl _ _).grown hg1 (Nat.le_refl _) (fun k hk => by cases hk)
  have hs1 := hs.later hb1
  obtain ⟨g, hgd⟩ : ∃ g, g = w.heap.size := ⟨_, rfl⟩
  rw [← hgd] at hg hb1 ⊢
  have HG := Lib.hid hg
  have HS := Lib.hid hs1
  have HB := Lib.hid hb1
  have HGD := Lib.hid hgd
  clear hg hown1 hs1 hb1 hgd hg1 hs
  obtain ⟨w2, hcp, hg2, hb2⟩ := run_copy_bytes 3 g (n + 3) (n + 3) ao n cap l _ _ HS.out (by omega) HG.out (by simp)
  rw [show (List.replicate (n + 3) (Value.int .u8 0)) = List.replicate (l.length + 3) (Value.int .u8 0) by rw [HL.out], lentA_start] at hg2
  have hb3 := HB.out.trans hb2
  have HG2 := Lib.hid hg2
  have HB3 := Lib.hid hb3
  clear hg2 hb3 hb2
  rw [hcp]
  clear hcp
  go_wp2
  go_loopw [4] (fun i wr => ∃ k : Nat, k ≤ 3 ∧ i = .int .i64 ((n : Int) + (k : Int)) ∧ Hid (wr.heap[g]? = some (.cells (u8s (lentA l k)).toArray 5 (0, 0))) ∧ Hid (Below g w wr)) (fun i _ => n + 3 - (intOf i).toNat)
  case atStart => exact ⟨0, by omega, by simp, HG2, HB3⟩
  case round =>
    obtain ⟨k, hk, rfl, hgk, hbk⟩ := hrel
    by_cases hlt : k < 3
    · obtain ⟨x, hx⟩ : ∃ x, lentA l k = x := ⟨_, rfl⟩
      have hxl : (lentA l k).length = n + 3 := by rw [lentA_length, HL.out]
      have hcell : wr.cell? ⟨g, n + k, none⟩ = some (u8 ((lentA l k).getD (n + k) 0)) := by
        rw [cell_of_row _ _ _ _ _ _ hgk.out]
        simp only [List.getElem?_toArray]
        exact u8s_get _ _ (by omega)
      have hcell : wr.cell? ⟨g, n + k, none⟩ = some (.int .u8 (((lentA l k).getD (n + k) 0).toNat : Int)) := hcell
      have hf : wr.frozen? ⟨g, n + k, none⟩ = false := frozen_of_row _ _ _ _ _ hgk.out
      have hset : (u8s (lentA l k)).toArray.setIfInBounds (n + k) (.int .u8 (160 + ((n : Int) + (k : Int)) % 90)) = (u8s (lentA l (k + 1))).toArray := by
        have h1 := lentA_set l k hlt
        rw [HL.out] at h1
        rw [← h1]
        congr 1
        simp only [u8, mark, UInt8.toNat_ofNat']
        congr 1
        omega
      obtain ⟨c, hc⟩ : ∃ c, c = (lentA l k).getD (n + k) 0 := ⟨_, rfl⟩
      rw [← hc] at hcell
      have HSET := Lib.hid hset
      clear hx hxl hset hc
      go_wp2
      go_roundw
      case rel =>
        refine ⟨k + 1, by omega, (by congr 1 <;> omega), ?_, hbk.out.setCell (Nat.le_refl _) _⟩
        have := heap_setCell_same wr g (n + k) _ _ (.int .u8 (160 + ((n : Int) + (k : Int)) % 90)) hgk.out
        rw [HSET.out] at this
        exact this
      case measure => simp [intOf]; omega
    · obtain rfl : k = 3 := by omega
      go_wp2
      go_ret
      refine ⟨g, rfl, by have := HGD.out; omega, hgk.out, ?_⟩
      rw [← HGD.out]
      exact hbk.out
theorem block_IsBytes {w : World} {g : Nat} {l : List UInt8} (hg : w.heap[g]? = some (.cells (u8s l).toArray 5 (0, 0))) (hm : l.length ≤ maxLen) : IsBytes w (some ⟨g, 0, none⟩) l.length l.length l := by
  refine ⟨rfl, Nat.le_refl _, hm, fun _ => ⟨g, 0, rfl, fun i hi => ?_⟩, fun h => by cases h⟩
  rw [cell_of_row _ _ _ _ _ _ hg, List.getElem?_toArray, Nat.zero_add]
  exact u8s_get l i hi
theorem slice_full (n : Nat) (g : Nat) (w' : World) : (Instr.slice 36 (.slice (some ⟨g, 0, none⟩) n (n + 3)) none (some (.int .i64 ((n : Int) + 3))) none).run Tryz.prog w' = .ok (.slice (some ⟨g, 0, none⟩) (n + 3) (n + 3)) w' := by
  obtain ⟨i0, hi0, hz0, hz1, hz2⟩ := info_parts Tryz.infoByte
  have e1 : (Instr.sliceBounds true n (n + 3) none (some (.int .i64 ((n : Int) + 3))) none).run Tryz.prog w' = .ok (0, n + 3, n + 3) w' := by
    have h0 : (0 : Int) ≤ (n : Int) + 3 := by omega
    have h1 : ((n : Int) + 3).toNat = n + 3 := by omega
    simp [Instr.sliceBounds, Instr.sliceBound, asIntOf, h0, h1]
  simp [Instr.slice, run_underlying Tryz.underlying36, e1, sizeOf, typeInfo, hi0, Result.andThen, Addr.add]
set_option maxRecDepth 100000 in
set_option maxHeartbeats 1000000 in
theorem KeptBytes_any (g n : Nat) (full : List UInt8) (bo : Option Addr) (cap2 : Nat) (l : List UInt8) (w : World) (hg : w.heap[g]? = some (.cells (u8s full).toArray 5 (0, 0))) (hf : full.length = n + 3)
    (hs : IsBytes w bo n cap2 l) (hn : n ≤ 4294967296) :
    Calls Tryz.prog 15 #[.slice (some ⟨g, 0, none⟩) n (n + 3), .slice bo n cap2] w fun e w' => e = .returned (.bool (full == lentA l 3)) ∧ Below w.heap.size w w' := by
  have hp : (0 : Int) ≤ (n : Int) := by omega
  have heq : ((n : Int) == (n : Int)) = true := by simp
  have hbf : IsBytes w (some ⟨g, 0, none⟩) (n + 3) (n + 3) full := by have := block_IsBytes hg (by rw [hf]; unfold maxLen; omega); rwa [hf] at this
  have hsl1 := slice_full n
  have hp3 : (0 : Int) ≤ (n : Int) + 3 := by omega
  have hw3 : IntKind.i64.wrap ((n : Int) + 3) = (n : Int) + 3 := IntWalk.i64_in _ (by omega)
  have HBF := Lib.hid hbf
  have HS := Lib.hid hs
  have HF := Lib.hid hf
  clear hbf hs hf hg
  go_enter Tryz.func15, Tryz.ntmps15
  go_wp2_with fail
  go_region_held3 (fun w' => IsBytes w' bo n cap2 l ∧ IsBytes w' (some ⟨g, 0, none⟩) (n + 3) (n + 3) full ∧ Below w.heap.size w w')
    (first
      | (exact ⟨HS.out, HBF.out, (Below.refl _ _).drew⟩)
      | (go_split_ands
         refine ⟨?_, ?_, ?_⟩
         · first | assumption | exact IsBytes.later (by assumption) hb1
         · first | assumption | exact IsBytes.later (by assumption) hb1
         · first | assumption | exact Below.trans (by assumption) hb1))
    (first
      | (go_at_call 12; go_split_ands; refine (LentBytes_any _ _ _ l _ (by assumption) hn).mono ?_; rintro e w1 ⟨g1, rfl, hg1, hh1, hb1⟩)
      | (go_at_call 35; go_split_ands; refine (SameBytes_any _ _ _ _ _ _ full (lentA l 3) _ (by assumption) (by have := block_IsBytes hh1 (by rw [lentA_length, HS.out.1]; unfold maxLen; omega); rwa [lentA_length, HS.out.1] at this)).mono ?_; rintro e w2 ⟨rfl, rfl⟩))
  go_wp2_with fail
  go_ret
  exact ⟨rfl, ((Below.refl w.heap.size w).drew).trans hb1⟩
end Go.Proofs.YtjkkfjmloleedaaGreat

/- apportionref06: number; an append of one slice to a slice of slices -/
namespace Go.Proofs.YtjkkfjmloleedaaGreat
open Go.RowKit
theorem Lists.lt {w : World} {base : Nat} {v : Value} {L : List (List UInt8)} (h : Lists w base v L) : ∀ g, v.ownBlock = some g → base ≤ g ∧ g < w.heap.size := by
  obtain ⟨vs, _, ⟨h2, _⟩, _⟩ := h
  exact fun g hg => h2.lt g hg
theorem wpList_append_lists {w : World} {ops : Array Oper} {rest : List Oper} {o : Oper} {a : Act} {Q : Exit → Act → World → Prop} (hgd : o.guard = none) (s x : Operand)
    (ho : o.op = .call { callee := .builtin .append, args := #[s, x], argTypes := #[70, 70] })
    (base : Nat) (v : Value) (L : List (List UInt8)) (hs : a.eval s = v) (hown : Lists w base v L)
    (g : Nat) (hx : a.eval x = .slice (some ⟨g, 0, none⟩) 1 1) (u : Value) (r : List UInt8) (hu : OwnB w base u r) (hg : w.heap[g]? = some (.cells #[u] 36 (0, 0)))
    (hn : L.length ≤ 4294967296) (hbase : base ≤ w.heap.size)
    (h : ∀ v' w', Lists w' base v' (L ++ [r]) → w.grownBy w' v.ownBlock → wpList Tryz.prog ops Q rest (a.put o.dst v') w') : wpList Tryz.prog ops Q (o :: rest) a w := by
  obtain ⟨i0, hi, hz0, hz1, hz2⟩ := info_parts Tryz.infoSlice
  obtain ⟨vs, h1, ⟨h2, h2a⟩, h3⟩ := hown
  obtain ⟨au, cu, rfl⟩ := ownsRow_shape hu.1
  obtain ⟨v', w', hr, hx2, hgr, hall, _⟩ := run_append_all (P := Tryz.prog) w base 70 o.type 36 i0 (.slice none 0 0) 1 24 Tryz.underlying70 hi hz0 hz1 hz2 rfl (by decide) v L.length vs h2 ⟨g, 0, none⟩ 1 1 [.slice au r.length cu] rfl
    (by
      intro j u hu
      match j, hu with
      | 0, hu =>
        simp at hu; subst hu
        rw [show (⟨g, 0, none⟩ : Addr).add 0 = ⟨g, 0, none⟩ from rfl, cell_of_row _ _ _ _ _ _ hg]; rfl)
    (by intro u hu; simp at hu; subst hu; rfl) (by unfold maxLen; omega) (by omega) hbase (fun u => plainV u = true) (by intro u hu; simp [Value.cells] at hu; subst hu; rfl) (by intro u hu; simp at hu; subst hu; rfl) h2a
  refine wpList_plain hgd fun K hK => ?_
  unfold Oper.wp execOp
  simp only [ho, resolve, invoke, builtin, Sem.run_bind, Sem.run_pure, Result.andThen_ok, List.map_toArray, List.map_cons, List.map_nil, hs, hx, hr]
  exact hK _ _ (h v' w' (Lists.snoc h1 h3 h2 hu ⟨hx2, hall⟩ hgr) hgr)
set_option maxRecDepth 100000 in
set_option maxHeartbeats 1000000 in
theorem refNumber_any (ao : Option Addr) (n cap : Nat) (l : List UInt8) (w : World) (hs : IsBytes w ao n cap l) (h4 : 4 ≤ n) :
    Calls Tryz.prog 91 #[.slice ao n cap] w fun e w' => e = .returned (.int .u32 (Fr.num4 l : Int)) ∧ Below w.heap.size w w' := by
  obtain ⟨hl, hnc, hcm, hat, _⟩ := hs
  unfold maxLen at hcm
  obtain ⟨b, off, rfl, hat2⟩ := hat (by intro h; rw [h] at hl; simp at hl; omega)
  have h0 : w.cell? ⟨b, off, none⟩ = some (.int .u8 ((l.getD 0 0).toNat : Int)) := hat2 0 (by omega)
  have h1 : w.cell? ⟨b, off + 1, none⟩ = some (.int .u8 ((l.getD 1 0).toNat : Int)) := hat2 1 (by omega)
  have h2 : w.cell? ⟨b, off + 2, none⟩ = some (.int .u8 ((l.getD 2 0).toNat : Int)) := hat2 2 (by omega)
  have h3 : w.cell? ⟨b, off + 3, none⟩ = some (.int .u8 ((l.getD 3 0).toNat : Int)) := hat2 3 (by omega)
  have hf := numK_four l (by omega)
  simp only [numK] at hf
  obtain ⟨c0, hc0⟩ : ∃ c, c = l.getD 0 0 := ⟨_, rfl⟩
  obtain ⟨c1, hc1⟩ : ∃ c, c = l.getD 1 0 := ⟨_, rfl⟩
  obtain ⟨c2, hc2⟩ : ∃ c, c = l.getD 2 0 := ⟨_, rfl⟩
  obtain ⟨c3, hc3⟩ : ∃ c, c = l.getD 3 0 := ⟨_, rfl⟩
  rw [← hc0] at h0 hf
  rw [← hc1] at h1 hf
  rw [← hc2] at h2 hf
  rw [← hc3] at h3 hf
  have b0 : c0.toNat < 256 := c0.toNat_lt
  have b1 : c1.toNat < 256 := c1.toNat_lt
  have b2 : c2.toNat < 256 := c2.toNat_lt
  have b3 : c3.toNat < 256 := c3.toNat_lt
  have hp : (4 : Int) ≤ (n : Int) := by omega
  have i1 : (1 : Int) < (n : Int) := by omega
  have i2 : (2 : Int) < (n : Int) := by omega
  have i3 : (3 : Int) < (n : Int) := by omega
  have i0 : (0 : Int) < (n : Int) := by omega
  have hor : bits .or .u32 (bits .or .u32 (bits .or .u32 (c0.toNat : Int) ((c1.toNat : Int) * 256)) ((c2.toNat : Int) * 65536)) ((c3.toNat : Int) * 16777216) = ((Fr.num4 l : Nat) : Int) := by
    have e1 : ((c1.toNat : Int) * 256) = ((c1.toNat * 256 : Nat) : Int) := by omega
    have e2 : ((c2.toNat : Int) * 65536) = ((c2.toNat * 65536 : Nat) : Int) := by omega
    have e3 : ((c3.toNat : Int) * 16777216) = ((c3.toNat * 16777216 : Nat) : Int) := by omega
    rw [e1, u32_or_nat _ _ (by omega) (by omega), show c1.toNat * 256 = c1.toNat * 2 ^ 8 from rfl, or_byte _ _ _ (by omega), e2, u32_or_nat _ _ (by omega) (by omega), show c2.toNat * 65536 = c2.toNat * 2 ^ 16 from rfl, or_byte _ _ _ (by omega), e3, u32_or_nat _ _ (by omega) (by omega), show c3.toNat * 16777216 = c3.toNat * 2 ^ 24 from rfl, or_byte _ _ _ (by omega), ← hf]
    congr 1
    omega
  have HOR := Lib.hid hor
  clear hor hf hc0 hc1 hc2 hc3 hat hat2
  go_enter Tryz.func91, Tryz.ntmps91
  go_wp2
  go_region
  go_wp2
  go_ret
  exact ⟨by rw [HOR.out]; rfl, (Below.refl _ _).drew⟩
end Go.Proofs.YtjkkfjmloleedaaGreat

/- apportionref06.Scan -/
namespace Go.Proofs.YtjkkfjmloleedaaGreat
open Go.RowKit
theorem scan_stop {b : List UInt8} {c : Nat} (h : Fr.headF b = .inl c) : Fr.scanF b = ([], 0, c) := by rw [Fr.scanF_eq, h]
theorem scan_go {b r : List UInt8} (h : Fr.headF b = .inr r) : Fr.scanF b = (r :: (Fr.scanF (b.drop (r.length + 12))).1, r.length + 12 + (Fr.scanF (b.drop (r.length + 12))).2.1, (Fr.scanF (b.drop (r.length + 12))).2.2) := by rw [Fr.scanF_eq, h]
/-- the state between two rounds. -/
def RInv (w wr : World) (n : Nat) (bs : List UInt8) (out : Value) (pre : List (List UInt8)) (k : Nat) : Prop :=
  Lists wr w.heap.size out pre ∧ Below w.heap.size w wr ∧ Fr.scanF bs = (pre ++ (Fr.scanF (bs.drop k)).1, k + (Fr.scanF (bs.drop k)).2.1, (Fr.scanF (bs.drop k)).2.2) ∧ pre.length ≤ k ∧ k ≤ n
theorem ref_end {w wr w2 : World} {n k c : Nat} {bs rest : List UInt8} {out : Value} {pre : List (List UInt8)} (hinv : RInv w wr n bs out pre k) (hr : rest = bs.drop k) (hh : Fr.headF rest = .inl c) (hb : Below wr.heap.size wr w2) :
    ∃ v, Ending.returned (.tuple #[out, .int .i64 (k : Int), .int .i64 (c : Int)]) = Ending.returned (.tuple #[v, .int .i64 ((Fr.scanF bs).2.1 : Int), .int .i64 ((Fr.scanF bs).2.2 : Int)]) ∧ Lists w2 w.heap.size v (Fr.scanF bs).1 ∧ Below w.heap.size w w2 := by
  have hsc := hinv.2.2.1
  rw [← hr, scan_stop hh] at hsc
  have e1 : (Fr.scanF bs).1 = pre := by rw [hsc]; simp
  have e2 : (Fr.scanF bs).2.1 = k := by rw [hsc]; rfl
  have e3 : (Fr.scanF bs).2.2 = c := by rw [hsc]
  rw [e1, e2, e3]
  exact ⟨_, rfl, hinv.1.later hb, hinv.2.1.trans (hb.mono hinv.2.1.size)⟩
theorem ref_step {w wr w6 : World} {n k m : Nat} {bs rest rec : List UInt8} {out v6 : Value} {pre : List (List UInt8)} (hinv : RInv w wr n bs out pre k) (hr : rest = bs.drop k) (hh : Fr.headF rest = .inr rec) (hm : rec.length = m) (hle : k + m + 12 ≤ n)
    (hl : Lists w6 w.heap.size v6 (pre ++ [rec])) (hb : Below w.heap.size w w6) : RInv w w6 n bs v6 (pre ++ [rec]) (k + m + 12) := by
  refine ⟨hl, hb, ?_, by have := hinv.2.2.2.1; simp; omega, hle⟩
  have hsc := hinv.2.2.1
  rw [← hr, scan_go hh, hr, List.drop_drop, hm, show k + (m + 12) = k + m + 12 by omega] at hsc
  rw [hsc]
  simp [Nat.add_assoc]
set_option maxRecDepth 100000 in
set_option maxHeartbeats 4000000 in
theorem RefScan_any (ao : Option Addr) (n cap : Nat) (bs : List UInt8) (w : World) (hs : IsBytes w ao n cap bs) (hn : n ≤ 4294967296) :
    Calls Tryz.prog 79 #[.slice ao n cap] w fun e w' => ∃ v, e = .returned (.tuple #[v, .int .i64 ((Fr.scanF bs).2.1 : Int), .int .i64 ((Fr.scanF bs).2.2 : Int)]) ∧ Lists w' w.heap.size v (Fr.scanF bs).1 ∧ Below w.heap.size w w' := by
  have HS := Lib.hid hs
  have HL := Lib.hid hs.1
  clear hs
  go_enter Tryz.func79, Tryz.ntmps79
  go_wp2
  go_loopw [5, 6] (fun out i wr => ∃ pre k, i = .int .i64 ((k : Nat) : Int) ∧ k ≤ n ∧ Hid (RInv w wr n bs out pre k)) (fun _ i _ => n - (intOf i).toNat)
  case atStart => exact ⟨[], 0, rfl, by omega, Lists.nil _ _, Below.refl _ _, by simp, by simp, by omega⟩
  case round =>
    obtain ⟨pre, k, rfl, hk, hinv⟩ := hrel
    by_cases hlt : k < n
    case neg =>
      obtain rfl : k = n := by omega
      have hd : bs.drop k = [] := List.drop_of_length_le (by rw [HL.out]; omega)
      have hh : Fr.headF (bs.drop k) = .inl 0 := by rw [hd]; rfl
      have HH := Lib.hid hh
      clear hd hh
      go_wp2
      go_ret3
      exact ref_end hinv.out rfl HH.out (Below.refl _ _)
    have hsr := HS.out.later hinv.out.2.1
    obtain ⟨ar, hsl, hrest, -⟩ := slice_from hsr k (by omega)
    obtain ⟨rest, hrd⟩ : ∃ r, r = bs.drop k := ⟨_, rfl⟩
    obtain ⟨N, hN⟩ : ∃ N, N = n - k := ⟨_, rfl⟩
    obtain ⟨C, hC⟩ : ∃ N, N = cap - k := ⟨_, rfl⟩
    have hrl : rest.length = N := by rw [hrd, List.length_drop, HL.out, hN]
    have hN0 : 0 < N := by omega
    have hsc := hinv.out.2.2.1
    rw [← hN, ← hC] at hsl hrest
    rw [← hrd] at hrest hsc
    have HSC := Lib.hid hsc
    have HRD := Lib.hid hrd
    have HRL := Lib.hid hrl
    have HREST := Lib.hid hrest
    have HKN := Lib.hid hN
    have hk0 : (0 : Int) ≤ (k : Int) := by omega
    have hkn : (k : Int) < (n : Int) := by omega
    have hNle : N ≤ n := by omega
    clear hsr hrest hrd hrl hsc hN hC
    -- too short for a head
    by_cases h8 : N < 8
    · have hh : Fr.headF rest = .inl 1 := by
        unfold Fr.headF
        rw [if_pos (by rw [HRL.out]; exact h8), if_neg (by rw [HRL.out]; omega)]
      have HH := Lib.hid hh
      have h8' : (N : Int) < 8 := by omega
      clear hh
      go_wp2
      go_ret3
      exact ref_end hinv.out HRD.out HH.out (Below.refl _ _)
    have h8' : (8 : Int) ≤ (N : Int) := by omega
    have h8n : ¬ (N : Int) < 8 := by omega
    obtain ⟨a4, hsl4, hrest4, -⟩ := slice_from HREST.out 4 (by omega)
    have hsl4 : ∀ w', (Instr.slice 36 (.slice ar N C) (some (.int .i64 4)) none none).run Tryz.prog w' = .ok (.slice a4 (N - 4) (C - 4)) w' := hsl4
    have HREST4 := Lib.hid hrest4
    obtain ⟨m, hm⟩ : ∃ m, m = Fr.num4 rest := ⟨_, rfl⟩
    obtain ⟨m4, hm4⟩ : ∃ m, m = Fr.num4 (rest.drop 4) := ⟨_, rfl⟩
    have hmlt : m < 4294967296 := by rw [hm]; exact Fr.num4_lt _
    have hmlt4 : m4 < 4294967296 := by rw [hm4]; exact Fr.num4_lt _
    have HM := Lib.hid hm
    have HM4 := Lib.hid hm4
    clear hrest4 hm hm4
    by_cases hc4 : m4 = 4294967295 - m
    case neg =>
      have hh : Fr.headF rest = .inl 2 := by
        unfold Fr.headF
        rw [if_neg (by rw [HRL.out]; exact h8), if_pos (.inl (by rw [← HM.out, ← HM4.out]; exact hc4))]
      have HH := Lib.hid hh
      have ht : ((m4 : Int) != bits .xor .u32 IntKind.u32.max (m : Int)) = true := by rw [Fr.not_nat m hmlt, bne_iff_ne]; omega
      have ht2 : ¬ ((m4 : Int) = bits .xor .u32 IntKind.u32.max (m : Int)) := by rw [Fr.not_nat m hmlt]; omega
      clear hh
      go_wp2_with fail
      refine (refNumber_any _ _ _ rest _ HREST.out (by omega)).mono ?_
      rintro e w1 ⟨rfl, hb1⟩
      rw [← HM.out]
      go_wp2_with fail
      refine (refNumber_any _ _ _ (rest.drop 4) _ (HREST4.out.later hb1) (by omega)).mono ?_
      rintro e w2 ⟨rfl, hb2⟩
      rw [← HM4.out]
      go_wp2_with fail
      go_ret3
      exact ref_end hinv.out HRD.out HH.out (hb1.trans (hb2.mono hb1.size))
    have ht : ((m4 : Int) != bits .xor .u32 IntKind.u32.max (m : Int)) = false := by rw [Fr.not_nat m hmlt, bne_eq_false_iff_eq]; omega
    have ht2 : ((4294967295 - m : Nat) : Int) = bits .xor .u32 IntKind.u32.max (m : Int) := (Fr.not_nat m hmlt).symm
    -- a length too great
    by_cases hbig : 65536 < m
    · have hh : Fr.headF rest = .inl 2 := by
        unfold Fr.headF
        rw [if_neg (by rw [HRL.out]; exact h8), if_pos (.inr (by rw [← HM.out]; exact hbig))]
      have HH := Lib.hid hh
      have hbig' : (65536 : Int) < (m : Int) := by omega
      clear hh
      go_wp2_with fail
      refine (refNumber_any _ _ _ rest _ HREST.out (by omega)).mono ?_
      rintro e w1 ⟨rfl, hb1⟩
      rw [← HM.out]
      go_wp2_with fail
      refine (refNumber_any _ _ _ (rest.drop 4) _ (HREST4.out.later hb1) (by omega)).mono ?_
      rintro e w2 ⟨rfl, hb2⟩
      rw [← HM4.out]
      go_wp2_with fail
      go_ret3
      exact ref_end hinv.out HRD.out HH.out (hb1.trans (hb2.mono hb1.size))
    have hbig' : (m : Int) ≤ 65536 := by omega
    -- too short for its length
    by_cases hshort : N < m + 12
    · have hh : Fr.headF rest = .inl 1 := by
        unfold Fr.headF
        rw [if_neg (by rw [HRL.out]; exact h8), if_neg (by rw [← HM.out, ← HM4.out]; exact fun h => h.elim (fun h => h hc4) (fun h => hbig h)), if_pos (by rw [HRL.out, ← HM.out]; exact hshort)]
      have HH := Lib.hid hh
      have hs' : (N : Int) < (m : Int) + 12 := by omega
      clear hh
      go_wp2_with fail
      refine (refNumber_any _ _ _ rest _ HREST.out (by omega)).mono ?_
      rintro e w1 ⟨rfl, hb1⟩
      rw [← HM.out]
      go_wp2_with fail
      refine (refNumber_any _ _ _ (rest.drop 4) _ (HREST4.out.later hb1) (by omega)).mono ?_
      rintro e w2 ⟨rfl, hb2⟩
      rw [← HM4.out]
      go_wp2_with fail
      go_ret3
      exact ref_end hinv.out HRD.out HH.out (hb1.trans (hb2.mono hb1.size))
    have hs' : (m : Int) + 12 ≤ (N : Int) := by omega
    obtain ⟨a8, hsl8, hrec, -⟩ := slice_both HREST.out 8 (8 + m) (by omega) (by omega)
    obtain ⟨a9, hsl9, hcs, -⟩ := slice_from HREST.out (8 + m) (by omega)
    rw [show 8 + m - 8 = m by omega] at hsl8 hrec
    rw [List.drop_take, show 8 + m - 8 = m by omega] at hrec
    have hsl8 : ∀ w', (Instr.slice 36 (.slice ar N C) (some (.int .i64 8)) (some (.int .i64 (8 + (m : Int)))) none).run Tryz.prog w' = .ok (.slice a8 m (C - 8)) w' := hsl8
    have hsl9 : ∀ w', (Instr.slice 36 (.slice ar N C) (some (.int .i64 (8 + (m : Int)))) none none).run Tryz.prog w' = .ok (.slice a9 (N - (8 + m)) (C - (8 + m))) w' := hsl9
    obtain ⟨rec, hrecd⟩ : ∃ r, r = (rest.drop 8).take m := ⟨_, rfl⟩
    obtain ⟨c, hcd⟩ : ∃ c, c = Fr.num4 (rest.drop (8 + m)) := ⟨_, rfl⟩
    rw [← hrecd] at hrec
    have HREC := Lib.hid hrec
    have HCS := Lib.hid hcs
    have HCD := Lib.hid hcd
    have HRECD := Lib.hid hrecd
    have hrl : rec.length = m := hrec.1
    have hheadE : c ≠ (Fr.sumB rec).toNat → Fr.headF rest = .inl 2 := fun hne => by
      unfold Fr.headF
      rw [if_neg (by rw [HRL.out]; exact h8), if_neg (by rw [← HM.out, ← HM4.out]; exact fun h => h.elim (fun h => h hc4) (fun h => hbig h)), if_neg (by rw [HRL.out, ← HM.out]; exact hshort), if_pos (by rw [← HM.out, ← HCD.out, ← HRECD.out]; exact hne)]
    have hheadR : c = (Fr.sumB rec).toNat → Fr.headF rest = .inr rec := fun he => by
      unfold Fr.headF
      rw [if_neg (by rw [HRL.out]; exact h8), if_neg (by rw [← HM.out, ← HM4.out]; exact fun h => h.elim (fun h => h hc4) (fun h => hbig h)), if_neg (by rw [HRL.out, ← HM.out]; exact hshort), if_neg (by rw [← HM.out, ← HCD.out, ← HRECD.out]; exact fun h => h he), ← HM.out, ← HRECD.out]
    obtain ⟨sm, hsm⟩ : ∃ s, s = (Fr.sumB rec).toNat := ⟨_, rfl⟩
    rw [← hsm] at hheadE hheadR
    have HSM := Lib.hid hsm
    have HHE := Lib.hid hheadE
    have HHR := Lib.hid hheadR
    clear hrec hcs hcd hrecd hsm hheadE hheadR
    by_cases hcsum : c = sm
    case neg =>
      have HH := Lib.hid (HHE.out hcsum)
      have hq : ((c : Int) != (sm : Int)) = true := by rw [bne_iff_ne]; omega
      have hq2 : ¬ (c : Int) = (sm : Int) := by omega
      go_wp2_with fail
      refine (refNumber_any _ _ _ rest _ HREST.out (by omega)).mono ?_
      rintro e w1 ⟨rfl, hb1⟩
      rw [← HM.out]
      go_wp2_with fail
      refine (refNumber_any _ _ _ (rest.drop 4) _ (HREST4.out.later hb1) (by omega)).mono ?_
      rintro e w2 ⟨rfl, hb2⟩
      rw [← HM4.out]
      have HB2 := Lib.hid (hb1.trans (hb2.mono hb1.size))
      clear hb1 hb2
      go_wp2_with fail
      refine (refNumber_any _ _ _ _ _ (HCS.out.later HB2.out) (by omega)).mono ?_
      rintro e w3 ⟨rfl, hb3⟩
      rw [← HCD.out]
      have HB3 := Lib.hid (HB2.out.trans (hb3.mono HB2.out.size))
      clear hb3
      go_wp2_with fail
      refine (RefSum_any _ _ _ rec _ (HREC.out.later HB3.out)).mono ?_
      rintro e w4 ⟨rfl, rfl⟩
      rw [← HSM.out]
      go_wp2_with fail
      go_ret3
      exact ref_end hinv.out HRD.out HH.out HB3.out
    have HH := Lib.hid (HHR.out hcsum)
    subst hcsum
    go_wp2_with fail
    refine (refNumber_any _ _ _ rest _ HREST.out (by omega)).mono ?_
    rintro e w1 ⟨rfl, hb1⟩
    rw [← HM.out]
    go_wp2_with fail
    refine (refNumber_any _ _ _ (rest.drop 4) _ (HREST4.out.later hb1) (by omega)).mono ?_
    rintro e w2 ⟨rfl, hb2⟩
    rw [← HM4.out]
    have HB2 := Lib.hid (hb1.trans (hb2.mono hb1.size))
    clear hb1 hb2
    go_wp2_with fail
    refine (refNumber_any _ _ _ _ _ (HCS.out.later HB2.out) (by omega)).mono ?_
    rintro e w3 ⟨rfl, hb3⟩
    rw [← HCD.out]
    have HB3 := Lib.hid (HB2.out.trans (hb3.mono HB2.out.size))
    clear hb3
    go_wp2_with fail
    refine (RefSum_any _ _ _ rec _ (HREC.out.later HB3.out)).mono ?_
    rintro e w4 ⟨rfl, rfl⟩
    rw [← HSM.out]
    have hmade : OwnB (w3.alloc (.cells #[] 5)) w3.heap.size (.slice (some ⟨w3.heap.size, 0, none⟩) 0 0) [] := OwnB_made
    have hba : Below w3.heap.size w3 (w3.alloc (.cells #[] 5)) := (Below.refl _ _).alloc (Nat.le_refl _) _
    have HMADE := Lib.hid hmade
    have HREC4 := Lib.hid ((HREC.out.later HB3.out).later hba)
    have HBA := Lib.hid hba
    clear hmade hba
    have hwb := hinv.out.2.1.trans (HB3.out.mono hinv.out.2.1.size)
    have hwb3 : w.heap.size ≤ w3.heap.size := hwb.size
    have hpre := hinv.out.2.2.2.1
    have HWB := Lib.hid hwb
    have HL3 := Lib.hid (hinv.out.1.later HB3.out)
    clear hwb
    go_wp2_with (first
      | (at_builtin; refine wpList_append_lists rfl _ _ rfl w.heap.size _ pre rfl HL5.out w5.heap.size rfl (.slice a5 m c5) rec HO5.out (heap_alloc_new w5 _) (by omega) HWB5.out.size ?_; intro v6 w6 hl6 hg6)
      | (at_builtin; refine wpList_append_bytes rfl _ _ rfl w3.heap.size _ [] rfl HMADE.out _ _ _ rec rfl HREC4.out (by simp; omega) HBA.out.size ?_; intro v5 w5 hown5 hg5
         have hb35 := HBA.out.grown hg5 HBA.out.size (fun k hk => (HMADE.out.1.lt k hk).1)
         rw [List.nil_append] at hown5
         obtain ⟨a5, c5, hv5, -, -⟩ := hown5.bytes
         rw [hrl] at hv5
         subst hv5
         have hal : Below w5.heap.size w5 (w5.alloc (.cells #[.slice a5 m c5] 36)) := (Below.refl _ _).alloc (Nat.le_refl _) _
         have hb36 := hb35.trans (hal.mono hb35.size)
         have HL5 := Lib.hid (HL3.out.later hb36)
         have HWB5 := Lib.hid (HWB.out.trans (hb36.mono hwb3))
         have HO5 := Lib.hid ((hown5.later hal).base hwb3)
         clear hb35 hown5 hg5 hal hb36))
    have HL6 := Lib.hid hl6
    have HB6 := Lib.hid (HWB5.out.grown hg6 HWB5.out.size (fun k hk => (HL5.out.lt k hk).1))
    clear hl6 hg6
    go_wp2_with fail
    go_roundw
    case rel => exact ⟨pre ++ [rec], k + m + 12, by go_num, by have := HKN.out; omega, ref_step hinv.out HRD.out HH.out hrl (by have := HKN.out; omega) HL6.out HB6.out⟩
    case measure => have := HKN.out; simp [intOf]; omega
end Go.Proofs.YtjkkfjmloleedaaGreat
