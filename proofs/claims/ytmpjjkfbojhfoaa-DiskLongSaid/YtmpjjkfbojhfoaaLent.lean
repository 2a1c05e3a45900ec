/- apportionkit.OverBytes -/
import Derived.Test.YtmpjjkfbojhfoaaKit
import Derived.Laws.CopyOwn
import Derived.Deep.RegionWith
import Derived.Deep.RegionHeld3
namespace Go.Proofs.Ytmpjjkfbojhfoaa
open Go.RowKit
theorem grownBy_setCell {w w1 : World} {g off : Nat} {v : Value} (h : w.grownBy w1 (some g)) : w.grownBy (w1.setCell ⟨g, off, none⟩ v) (some g) :=
  ⟨h.os, h.tape, h.output, by simpa using h.size, fun k hk hne => by
    rw [Below.heap_setCell _ _ _ _ (by intro e; exact hne (by rw [e]))]; exact h.block k hk hne⟩
theorem xor_u8 (c d : UInt8) : bits .xor .u8 (c.toNat : Int) (d.toNat : Int) = (((c ^^^ d).toNat : Nat) : Int) := by
  rw [u8_xor_nat _ _ c.toNat_lt d.toNat_lt, UInt8.toNat_xor]
theorem u8s_of_all : ∀ vs : List Value, (∀ u ∈ vs, isU8 u) → ∃ l, vs = u8s l
  | [], _ => ⟨[], rfl⟩
  | v :: vs, h => by
    obtain ⟨c, hc⟩ := h v (by simp)
    obtain ⟨l, hl⟩ := u8s_of_all vs (fun u hu => h u (by simp [hu]))
    exact ⟨c :: l, by rw [hc, hl]; rfl⟩
/-- what a step that keeps block g a row of bytes of its length leaves of an owned slice of bytes: one of as many. -/
theorem OwnB.over {w w' : World} {g cap base : Nat} {c1 c2 : Array Value} {u : Value} {l : List UInt8} (h : OwnB w base u l) (h1 : w.heap[g]? = some (.cells c1 5 (0, 0))) (hs1 : c1.size = cap) (h2 : w'.heap[g]? = some (.cells c2 5 (0, 0))) (hs2 : c2.size = cap) (hok : ∀ u, u ∈ c2 → isU8 u)
    (hg : w.grownBy w' (some g)) : ∃ l3 : List UInt8, l3.length = l.length ∧ OwnB w' base u l3 := by
  by_cases hu : u.ownBlock = some g
  · rcases h.1.2 with ⟨rfl, h0⟩ | ⟨g', cap', cur, rfl, hb, hg', hn, hm, hs, ht⟩
    · simp [Value.ownBlock] at hu
    · simp only [Value.ownBlock, Option.some.injEq] at hu
      subst hu
      rw [h1] at hg'
      injection hg' with hg'
      injection hg' with hg' _ _
      subst hg'
      have hcc : cap' = cap := by omega
      subst hcc
      obtain ⟨l3, hl3⟩ := u8s_of_all (c2.toList.take (l.length * 1)) (fun u hu => hok u (by simpa using List.mem_of_mem_take hu))
      have hlen : l3.length = l.length := by
        have := congrArg List.length hl3
        rw [List.length_take, u8s_length] at this
        simp at this
        omega
      refine ⟨l3, hlen, ⟨by simp [u8s], .inr ⟨g', cap', c2, by rw [hlen], hb, h2, by omega, hm, by omega, by rw [hlen]; exact hl3⟩⟩, ?_⟩
      intro g2 c t f e1 e2 u hu
      simp only [Value.ownBlock, Option.some.injEq] at e1
      subst e1
      rw [h2] at e2
      injection e2 with e2
      injection e2 with e2 _ _
      subst e2
      exact hok u hu
  · exact ⟨l, rfl, h.kept hg (fun k hk e => hu (by rw [hk, e]))⟩
set_option maxRecDepth 100000 in
set_option maxHeartbeats 400000 in
theorem OverBytes_strong (v : Value) (base : Nat) (l : List UInt8) (w : World) (h : OwnB w base v l) :
    Calls Try.prog 59 #[v] w fun e w' => e = .returned (.tuple #[]) ∧ w.grownBy w' v.ownBlock ∧ (∀ base2 u l2, OwnB w base2 u l2 → ∃ l3 : List UInt8, l3.length = l2.length ∧ OwnB w' base2 u l3) := by
  obtain ⟨hrow, hall⟩ := h
  rcases hrow.2 with ⟨rfl, h0⟩ | ⟨g, cap, cur, rfl, hb, hg, hn, hm, hs, ht⟩
  · go_enter Try.func59, Try.ntmps59
    go_wp2
    refine wp_loop_rounds 1 ?_
    rw [rounds_succ]
    go_wp2
    go_end0
    exact ⟨rfl, ⟨rfl, rfl, rfl, Nat.le_refl _, fun _ _ _ => rfl⟩, fun _ _ l2 h => ⟨l2, rfl, h⟩⟩
  · have hok := hall g cur _ _ rfl hg
    have hs : cur.size = cap := by omega
    unfold maxLen at hm
    have HOK : Hid (∃ c2 : Array Value, c2.size = cap ∧ (∀ u, u ∈ c2 → isU8 u) ∧ w.heap[g]? = some (.cells c2 5 (0, 0))) := ⟨cur, hs, hok, hg⟩
    have h0 : (0 : Int) ≤ (cap : Int) := by omega
    have HG0 := Lib.hid hg
    have HS0 := Lib.hid hs
    clear hok hg hs ht hrow hall
    go_enter Try.func59, Try.ntmps59
    go_wp2
    go_loopw [3] (fun i wr => ∃ k : Nat, k ≤ cap ∧ i = .int .i64 k ∧ Hid (∃ c2 : Array Value, c2.size = cap ∧ (∀ u, u ∈ c2 → isU8 u) ∧ wr.heap[g]? = some (.cells c2 5 (0, 0))) ∧ Hid (w.grownBy wr (some g))) (fun i _ => cap - (intOf i).toNat)
    case atStart => exact ⟨0, by omega, rfl, HOK, rfl, rfl, rfl, Nat.le_refl _, fun _ _ _ => rfl⟩
    case round =>
      obtain ⟨k, hk, rfl, hbk, hgr⟩ := hrel
      by_cases hlt : k < cap
      · obtain ⟨c2, hs2, hok2, hg2⟩ := hbk.out
        obtain ⟨c, hc⟩ := hok2 (c2[k]'(by omega)) (Array.getElem_mem _)
        have hcell : wr.cell? ⟨g, k, none⟩ = some (.int .u8 (c.toNat : Int)) := by
          rw [cell_of_row _ _ _ _ _ _ hg2, Array.getElem?_eq_getElem (by omega), hc]
        have hf : wr.frozen? ⟨g, k, none⟩ = false := frozen_of_row _ _ _ _ _ hg2
        have hx := xor_u8 c 90
        have HX : Hid (bits .xor .u8 (c.toNat : Int) 90 = (((c ^^^ 90).toNat : Nat) : Int)) := hx
        have HG := Lib.hid hg2
        have HS := Lib.hid hs2
        have HO := Lib.hid hok2
        have hcl := c.toNat_lt
        clear hx hg2 hs2 hok2 hc
        go_wp2
        go_roundw
        case rel =>
          refine ⟨k + 1, by omega, by go_num, ?_, grownBy_setCell hgr.out⟩
          refine ⟨_, ?_, ?_, heap_setCell_same _ _ _ _ _ _ HG.out⟩
          · simp [HS.out]
          · intro u hu
            rcases Array.mem_or_eq_of_mem_setIfInBounds hu with h | h
            · exact HO.out u h
            · exact ⟨c ^^^ 90, by rw [h, HX.out]⟩
        case measure => simp [intOf]; omega
      · obtain rfl : k = cap := by omega
        go_wp2
        go_end0
        obtain ⟨c2, hs2, hok2, hg2⟩ := hbk.out
        exact ⟨rfl, hgr.out, fun _ _ _ h => h.over HG0.out HS0.out hg2 hs2 hok2 hgr.out⟩
theorem OverBytes_any (v : Value) (base : Nat) (l : List UInt8) (w : World) (h : OwnB w base v l) :
    Calls Try.prog 59 #[v] w fun e w' => e = .returned (.tuple #[]) ∧ w.grownBy w' v.ownBlock :=
  (OverBytes_strong v base l w h).mono fun _ _ h => ⟨h.1, h.2.1⟩
end Go.Proofs.Ytmpjjkfbojhfoaa

/- apportionkit.LentBytes, KeptBytes -/
namespace Go.Proofs.Ytmpjjkfbojhfoaa
open Go.RowKit
def mark (i : Nat) : UInt8 := UInt8.ofNat (160 + i % 90)
/-- a lent copy's bytes, k of its marks laid. -/
def lentA (l : List UInt8) (k : Nat) : List UInt8 := (List.range (l.length + 3)).map fun i => if i < l.length then l.getD i 0 else if i < l.length + k then mark i else 0
theorem lentA_length (l : List UInt8) (k : Nat) : (lentA l k).length = l.length + 3 := by simp [lentA]
theorem lentA_get (l : List UInt8) (k i : Nat) (h : i < l.length + 3) : (lentA l k)[i]? = some (if i < l.length then l.getD i 0 else if i < l.length + k then mark i else 0) := by
  unfold lentA
  rw [List.getElem?_map, List.getElem?_range h]; rfl
theorem lentA_set (l : List UInt8) (k : Nat) (h : k < 3) : (u8s (lentA l k)).toArray.setIfInBounds (l.length + k) (u8 (mark (l.length + k))) = (u8s (lentA l (k + 1))).toArray := by
  apply Array.ext_getElem?
  intro i
  rw [Array.getElem?_setIfInBounds]
  by_cases hi : i < l.length + 3
  · simp only [List.getElem?_toArray, u8s, List.getElem?_map, lentA_get _ _ _ hi, Option.map_some, List.size_toArray, List.length_map, lentA_length]
    by_cases hik : l.length + k = i
    · subst hik; simp [h, show ¬ l.length + k < l.length by omega]
    · simp only [hik, if_false]
      by_cases h1 : i < l.length
      · simp [h1]
      · by_cases h2 : i < l.length + k
        · simp [h1, h2, show i < l.length + (k + 1) by omega]
        · simp [h1, h2, show ¬ i < l.length + (k + 1) by omega]
  · rw [if_neg (by omega)]
    simp [u8s, lentA, hi]
theorem lentA_take (l : List UInt8) (k : Nat) : (lentA l k).take l.length = l := by
  apply List.ext_getElem?
  intro i
  rw [List.getElem?_take]
  by_cases h : i < l.length
  · rw [if_pos h, lentA_get _ _ _ (by omega), if_pos h]
    simp [List.getD_eq_getElem?_getD, h]
  · rw [if_neg h, List.getElem?_eq_none (by omega)]
theorem lentA_start (l : List UInt8) : splice (List.replicate (l.length + 3) (Value.int .u8 0)) 0 (u8s l) = u8s (lentA l 0) := by
  have hz : (Value.int .u8 0) = u8 0 := rfl
  apply List.ext_getElem?
  intro i
  unfold splice
  by_cases h : i < l.length
  · simp only [List.take_zero, List.nil_append, Nat.zero_add]
    rw [List.getElem?_append_left (by rw [u8s_length]; exact h)]
    simp only [u8s, List.getElem?_map, lentA_get l 0 i (by omega), if_pos h, Option.map_some]
    simp [List.getD_eq_getElem?_getD, h]
  · simp only [List.take_zero, List.nil_append, Nat.zero_add]
    rw [List.getElem?_append_right (by rw [u8s_length]; omega), u8s_length]
    by_cases h3 : i < l.length + 3
    · simp only [u8s, List.getElem?_map, lentA_get l 0 i h3, if_neg h, Option.map_some]
      rw [List.getElem?_drop, List.getElem?_replicate]
      simp [h, hz]; omega
    · rw [List.getElem?_drop, List.getElem?_replicate]
      simp [u8s, lentA, h3]; omega
theorem made_zero (n : Nat) : (madeCells (Value.int .u8 0).cells (n * 1)).toList = List.replicate n (Value.int .u8 0) := by
  apply List.ext_getElem?
  intro i
  simp only [madeCells, Nat.mul_one, Array.toList_map, Array.toList_range, List.getElem?_map, List.getElem?_replicate]
  by_cases h : i < n
  · rw [List.getElem?_range h]; simp [Value.cells, h, Nat.mod_one]
  · rw [List.getElem?_eq_none (by simpa using h)]; simp [h]
/-- 'copy(full, src)' into the head of a block of the call's own. -/
theorem run_copy_bytes {w : World} (ty g dLen dCap : Nat) (ao : Option Addr) (m c : Nat) (l : List UInt8) (cur : List Value) (t : Nat) (hs : IsBytes w ao m c l) (hm : m ≤ dLen) (hg : w.heap[g]? = some (.cells cur.toArray t (0, 0))) (hfit : m ≤ cur.length) :
    ∃ w', (Builtin.copy_ #[23, 23] ty #[.slice (some ⟨g, 0, none⟩) dLen dCap, .slice ao m c]).run Try.prog w = .ok (goInt m) w' ∧ w'.heap[g]? = some (.cells (splice cur 0 (u8s l)).toArray t (0, 0)) ∧ Below g w w' := by
  have hmin : Nat.min m dLen = m := Nat.min_eq_left hm
  have hz : (Try.prog.info? 5).map (·.size) = some 1 := by kernel_rfl
  cases ao with
  | none =>
    obtain ⟨rfl, rfl⟩ := hs.2.2.2.2 rfl
    obtain rfl : l = [] := List.eq_nil_of_length_eq_zero hs.1
    exact ⟨w, run_copy_none (P := Try.prog) w _ _ ty _ _ _ dLen dCap 0 0 Try.underlying23 hz (by rw [hmin]), by simpa [splice, u8s] using hg, Below.refl _ _⟩
  | some ad =>
    obtain ⟨b, off, spot⟩ := ad
    have h1 := run_copy_row (P := Try.prog) w 23 23 ty 5 g 0 dLen dCap ⟨b, off, spot⟩ m c cur.toArray t (u8s l) Try.underlying23 hz hg (by rw [u8s_length, hs.1, hmin]) hs.cells (by rw [u8s_length, hs.1]; simpa using hfit) (u8s_one l)
    rw [u8s_length, hs.1] at h1
    refine ⟨_, h1, ?_, ⟨rfl, rfl, rfl, by simp, fun k hk => setRow_other _ _ _ _ (by omega)⟩⟩
    rw [setRow_heap _ _ _ _ _ _ hg]
    simp [splice, u8s_length, hs.1]
set_option maxRecDepth 100000 in
set_option maxHeartbeats 400000 in
theorem LentBytes_any (ao : Option Addr) (n cap : Nat) (l : List UInt8) (w : World) (hs : IsBytes w ao n cap l) (hn : n ≤ 4294967296) :
    Calls Try.prog 57 #[.slice ao n cap] w fun e w' => ∃ g, e = .returned (.slice (some ⟨g, 0, none⟩) n (n + 3)) ∧ w.heap.size ≤ g ∧ w'.heap[g]? = some (.cells (u8s (lentA l 3)).toArray 5 (0, 0)) ∧ Below w.heap.size w w' := by
  obtain ⟨i0, hi, hz0, hz1, hz2⟩ := info_parts Try.infoByte
  have hl := hs.1
  have hp : (0 : Int) ≤ (n : Int) := by omega
  have HL := Lib.hid hl
  clear hl
  go_enter Try.func57, Try.ntmps57
  go_wp2_with (at_make; refine wpList_make_full _ rfl _ _ 23 rfl w.heap.size 5 i0 (.int .u8 0) 1 Try.underlying23 hi hz0 hz1 _ _ _ _ (n + 3) rfl rfl (by omega) (by omega) (by rw [hz2]; omega) (by unfold maxLen; omega) (Nat.le_refl _) ?_; intro w1 hown1 hg1)
  have hg : w1.heap[w.heap.size]? = some (.cells (List.replicate (n + 3) (Value.int .u8 0)).toArray 5 (0, 0)) := by
    rcases hown1.2 with ⟨h, _⟩ | ⟨g, cap2, cur, he, _, hgg, _, _, hsz, ht⟩
    · cases h
    · injection he with he1 he2 he3
      injection he1 with he1
      injection he1 with he1
      subst he1
      rw [hgg]
      have e : cur.toList = List.replicate (n + 3) (Value.int .u8 0) := by
        rw [← made_zero, ← ht, List.take_of_length_le (by simp; omega)]
      rw [← e]
  have hb1 : Below w.heap.size w w1 := (Below.refl _ _).grown hg1 (Nat.le_refl _) (fun k hk => by cases hk)
  have hs1 := hs.later hb1
  obtain ⟨g, hgd⟩ : ∃ g, g = w.heap.size := ⟨_, rfl⟩
  rw [← hgd] at hg hb1 ⊢
  have HG := Lib.hid hg
  have HS := Lib.hid hs1
  have HB := Lib.hid hb1
  have HGD := Lib.hid hgd
  clear hg hown1 hs1 hb1 hgd hg1 hs
  obtain ⟨w2, hcp, hg2, hb2⟩ := run_copy_bytes 3 g (n + 3) (n + 3) ao n cap l _ _ HS.out (by omega) HG.out (by simp)
  rw [show (List.replicate (n + 3) (Value.int .u8 0)) = List.replicate (l.length + 3) (Value.int .u8 0) by rw [HL.out], lentA_start] at hg2
  have hb3 := HB.out.trans hb2
  have HG2 := Lib.hid hg2
  have HB3 := Lib.hid hb3
  clear hg2 hb3 hb2
  rw [hcp]
  clear hcp
  go_wp2
  go_loopw [4] (fun i wr => ∃ k : Nat, k ≤ 3 ∧ i = .int .i64 ((n : Int) + (k : Int)) ∧ Hid (wr.heap[g]? = some (.cells (u8s (lentA l k)).toArray 5 (0, 0))) ∧ Hid (Below g w wr)) (fun i _ => n + 3 - (intOf i).toNat)
  case atStart => exact ⟨0, by omega, by simp, HG2, HB3⟩
  case round =>
    obtain ⟨k, hk, rfl, hgk, hbk⟩ := hrel
    by_cases hlt : k < 3
    · obtain ⟨x, hx⟩ : ∃ x, lentA l k = x := ⟨_, rfl⟩
      have hxl : (lentA l k).length = n + 3 := by rw [lentA_length, HL.out]
      have hcell : wr.cell? ⟨g, n + k, none⟩ = some (u8 ((lentA l k).getD (n + k) 0)) := by
        rw [cell_of_row _ _ _ _ _ _ hgk.out]
        simp only [List.getElem?_toArray]
        exact u8s_get _ _ (by omega)
      have hcell : wr.cell? ⟨g, n + k, none⟩ = some (.int .u8 (((lentA l k).getD (n + k) 0).toNat : Int)) := hcell
      have hf : wr.frozen? ⟨g, n + k, none⟩ = false := frozen_of_row _ _ _ _ _ hgk.out
      have hset : (u8s (lentA l k)).toArray.setIfInBounds (n + k) (.int .u8 (160 + ((n : Int) + (k : Int)) % 90)) = (u8s (lentA l (k + 1))).toArray := by
        have h1 := lentA_set l k hlt
        rw [HL.out] at h1
        rw [← h1]
        congr 1
        simp only [u8, mark, UInt8.toNat_ofNat']
        congr 1
        omega
      obtain ⟨c, hc⟩ : ∃ c, c = (lentA l k).getD (n + k) 0 := ⟨_, rfl⟩
      rw [← hc] at hcell
      have HSET := Lib.hid hset
      clear hx hxl hset hc
      go_wp2
      go_roundw
      case rel =>
        refine ⟨k + 1, by omega, (by congr 1 <;> omega), ?_, hbk.out.setCell (Nat.le_refl _) _⟩
        have := heap_setCell_same wr g (n + k) _ _ (.int .u8 (160 + ((n : Int) + (k : Int)) % 90)) hgk.out
        rw [HSET.out] at this
        exact this
      case measure => simp [intOf]; omega
    · obtain rfl : k = 3 := by omega
      go_wp2
      go_ret
      refine ⟨g, rfl, by have := HGD.out; omega, hgk.out, ?_⟩
      rw [← HGD.out]
      exact hbk.out
theorem block_IsBytes {w : World} {g : Nat} {l : List UInt8} (hg : w.heap[g]? = some (.cells (u8s l).toArray 5 (0, 0))) (hm : l.length ≤ maxLen) : IsBytes w (some ⟨g, 0, none⟩) l.length l.length l := by
  refine ⟨rfl, Nat.le_refl _, hm, fun _ => ⟨g, 0, rfl, fun i hi => ?_⟩, fun h => by cases h⟩
  rw [cell_of_row _ _ _ _ _ _ hg, List.getElem?_toArray, Nat.zero_add]
  exact u8s_get l i hi
theorem slice_full (n : Nat) (g : Nat) (w' : World) : (Instr.slice 23 (.slice (some ⟨g, 0, none⟩) n (n + 3)) none (some (.int .i64 ((n : Int) + 3))) none).run Try.prog w' = .ok (.slice (some ⟨g, 0, none⟩) (n + 3) (n + 3)) w' := by
  obtain ⟨i0, hi0, hz0, hz1, hz2⟩ := info_parts Try.infoByte
  have e1 : (Instr.sliceBounds true n (n + 3) none (some (.int .i64 ((n : Int) + 3))) none).run Try.prog w' = .ok (0, n + 3, n + 3) w' := by
    have h0 : (0 : Int) ≤ (n : Int) + 3 := by omega
    have h1 : ((n : Int) + 3).toNat = n + 3 := by omega
    simp [Instr.sliceBounds, Instr.sliceBound, asIntOf, h0, h1]
  simp [Instr.slice, run_underlying Try.underlying23, e1, sizeOf, typeInfo, hi0, Result.andThen, Addr.add]
set_option maxRecDepth 100000 in
set_option maxHeartbeats 1000000 in
theorem KeptBytes_any (g n : Nat) (full : List UInt8) (bo : Option Addr) (cap2 : Nat) (l : List UInt8) (w : World) (hg : w.heap[g]? = some (.cells (u8s full).toArray 5 (0, 0))) (hf : full.length = n + 3)
    (hs : IsBytes w bo n cap2 l) (hn : n ≤ 4294967296) :
    Calls Try.prog 58 #[.slice (some ⟨g, 0, none⟩) n (n + 3), .slice bo n cap2] w fun e w' => e = .returned (.bool (full == lentA l 3)) ∧ Below w.heap.size w w' := by
  have hp : (0 : Int) ≤ (n : Int) := by omega
  have heq : ((n : Int) == (n : Int)) = true := by simp
  have hbf : IsBytes w (some ⟨g, 0, none⟩) (n + 3) (n + 3) full := by have := block_IsBytes hg (by rw [hf]; unfold maxLen; omega); rwa [hf] at this
  have hsl1 := slice_full n
  have hp3 : (0 : Int) ≤ (n : Int) + 3 := by omega
  have hw3 : IntKind.i64.wrap ((n : Int) + 3) = (n : Int) + 3 := IntWalk.i64_in _ (by omega)
  have HBF := Lib.hid hbf
  have HS := Lib.hid hs
  have HF := Lib.hid hf
  clear hbf hs hf hg
  go_enter Try.func58, Try.ntmps58
  go_wp2_with fail
  go_region_held3 (fun w' => IsBytes w' bo n cap2 l ∧ IsBytes w' (some ⟨g, 0, none⟩) (n + 3) (n + 3) full ∧ Below w.heap.size w w')
    (first
      | (exact ⟨HS.out, HBF.out, (Below.refl _ _).drew⟩)
      | (go_split_ands
         refine ⟨?_, ?_, ?_⟩
         · first | assumption | exact IsBytes.later (by assumption) hb1
         · first | assumption | exact IsBytes.later (by assumption) hb1
         · first | assumption | exact Below.trans (by assumption) hb1))
    (first
      | (go_at_call 57; go_split_ands; refine (LentBytes_any _ _ _ l _ (by assumption) hn).mono ?_; rintro e w1 ⟨g1, rfl, hg1, hh1, hb1⟩)
      | (go_at_call 44; go_split_ands; refine (SameBytes_any _ _ _ _ _ _ full (lentA l 3) _ (by assumption) (by have := block_IsBytes hh1 (by rw [lentA_length, HS.out.1]; unfold maxLen; omega); rwa [lentA_length, HS.out.1] at this)).mono ?_; rintro e w2 ⟨rfl, rfl⟩))
  go_wp2_with fail
  go_ret
  exact ⟨rfl, ((Below.refl w.heap.size w).drew).trans hb1⟩
end Go.Proofs.Ytmpjjkfbojhfoaa
