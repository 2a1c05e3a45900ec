/- apportionref06: Sum, word, number, Put -/
import Derived.Test.YtgbpgmbnihfkkaaSlices
import Derived.Test.YtgbpgmbnihfkkaaNumber
import Derived.Test.YtgbpgmbnihfkkaaLOpen1
import Derived.Test.YtgbpgmbnihfkkaaLSig
import Derived.Test.YtgbpgmbnihfkkaaKit
import Derived.Laws.CopyOwn
import Derived.Deep.RegionWith
import Derived.Deep.RegionHeld3
import Derived.Test.YtgbpgmbnihfkkaaLOne
import Derived.Test.YtgbpgmbnihfkkaaLCalls
namespace Go.Proofs.Ytgbpgmbnihfkkaa
open Go.RowKit
/-- k bits of a byte through the register. -/
def bitK (s : BitVec 32) (c : BitVec 8) (k : Nat) : BitVec 32 := Fr.rbs s (Fr.bitsN k (c.setWidth 32))
theorem bitK_succ (s : BitVec 32) (c : BitVec 8) (k : Nat) : bitK s c (k + 1) = Fr.rb (bitK s c k) ((c.setWidth 32).getLsbD k) := by
  unfold bitK
  rw [Fr.bitsN_succ, Fr.rbs_append]; rfl
theorem bitK_all (s : BitVec 32) (c : BitVec 8) : bitK s c 8 = Fr.bs s c := (Fr.bs_bits s c).symm
theorem rb_val (s : BitVec 32) (b : Bool) : Fr.rb s b = if s.getLsbD 0 != b then (s >>> 1) ^^^ 0xEDB88320#32 else s >>> 1 := by
  unfold Fr.rb Fr.f1
  have h0 : (s ^^^ Fr.b01 b).getLsbD 0 = (s.getLsbD 0 != b) := by
    rw [BitVec.getLsbD_xor, Fr.b01_bit]
    cases s.getLsbD 0 <;> cases b <;> rfl
  have h1 : (s ^^^ Fr.b01 b) >>> 1 = s >>> 1 := by
    apply BitVec.eq_of_getLsbD_eq
    intro i hi
    rw [BitVec.getLsbD_ushiftRight, BitVec.getLsbD_ushiftRight, BitVec.getLsbD_xor, Fr.b01_bit]
    simp
  rw [h0, h1]
theorem bit_of (s : BitVec 32) : s.getLsbD 0 = decide (s.toNat % 2 = 1) := by
  show s.toNat.testBit 0 = _
  rw [Nat.testBit_zero]
theorem bit_of8 (c : UInt8) (k : Nat) (hk : k < 8) : (c.toBitVec.setWidth 32).getLsbD k = decide (c.toNat / 2 ^ k % 2 = 1) := by
  rw [BitVec.getLsbD_setWidth]
  simp only [show k < 32 by omega, decide_true, Bool.true_and]
  show c.toNat.testBit k = _
  rw [Nat.testBit_eq_decide_div_mod_eq]
theorem rb_num (s : BitVec 32) (c : UInt8) (k : Nat) (hk : k < 8) :
    ((s.toNat % 2 = c.toNat / 2 ^ k % 2) → (((Fr.rb s ((c.toBitVec.setWidth 32).getLsbD k)).toNat : Nat) : Int) = (s.toNat : Int) / 2) ∧
    (¬ (s.toNat % 2 = c.toNat / 2 ^ k % 2) → (((Fr.rb s ((c.toBitVec.setWidth 32).getLsbD k)).toNat : Nat) : Int) = bits .xor .u32 ((s.toNat : Int) / 2) 3988292384) := by
  have hs := s.isLt
  have e3 : (s >>> 1).toNat = s.toNat / 2 := by rw [BitVec.toNat_ushiftRight, Nat.shiftRight_eq_div_pow]
  rw [rb_val, bit_of, bit_of8 c k hk]
  refine ⟨fun h => ?_, fun h => ?_⟩
  · rw [h]; simp [e3]
  · have hne : (decide (s.toNat % 2 = 1) != decide (c.toNat / 2 ^ k % 2 = 1)) = true := by
      rw [bne_iff_ne]
      intro h2
      apply h
      by_cases h1 : s.toNat % 2 = 1
      · simp [h1] at h2; omega
      · simp [h1] at h2; omega
    rw [hne, if_pos rfl, BitVec.toNat_xor, e3]
    have e2 : ((s.toNat : Int) / 2) = ((s.toNat / 2 : Nat) : Int) := by omega
    rw [e2, show (3988292384 : Int) = ((3988292384 : Nat) : Int) from rfl, u32_xor_nat _ _ (by omega) (by omega)]
    rfl
end Go.Proofs.Ytgbpgmbnihfkkaa

/- apportionref06: word, Put, number -/
namespace Go.Proofs.Ytgbpgmbnihfkkaa
open Go.RowKit
theorem OwnB_made {w : World} : OwnB (w.alloc (.cells #[] 5)) w.heap.size (.slice (some ⟨w.heap.size, 0, none⟩) 0 0) [] := by
  refine ⟨World.ownsRow_made w #[] 0 (Nat.le_refl _) (by unfold maxLen; omega) (by simp), fun g c t f hg hc u hu => ?_⟩
  simp only [Value.ownBlock, Option.some.injEq] at hg
  subst hg
  rw [heap_alloc_new] at hc
  cases hc
  simp at hu
end Go.Proofs.Ytgbpgmbnihfkkaa

/- the reference's ledger: Add, outcome by outcome -/
set_option linter.unusedSimpArgs false
set_option linter.unusedVariables false
namespace Go.Proofs.Ytgbpgmbnihfkkaa
open Go.RowKit
set_option linter.unusedSectionVars false
/-- every cut of a file lies within what there is; there are 16 files at most. -/
def Fit (g : Sig) : Prop := (∀ x ∈ g.R, FitF x) ∧ g.R.length ≤ 16
theorem Fit.done {g : Sig} {R' : List FileV} (h : Fit g) (h1 : ∀ x ∈ R', FitF x) (h2 : R'.length ≤ 16) : Fit (doneG g R').2 := by
  unfold doneG
  split
  · exact h
  · exact ⟨h1, h2⟩
theorem Fit.get {g : Sig} (h : Fit g) (i : Nat) : FitF (g.R.getD i f0) := by
  by_cases hi : i < g.R.length
  · exact h.1 _ (getD_mem' hi)
  · rw [List.getD_eq_getElem?_getD, List.getElem?_eq_none (by omega)]
    exact fit0
theorem Fit.app {q k : Nat} {g : Sig} (h : Fit g) (hl : Lim q k g) (s : ByteArray) (B : List UInt8) (hq : q + B.length ≤ 4294967296) : Fit (appG s B g).2 := by
  have ha := addB_lim B
  unfold appG
  split
  · exact h
  split
  · exact h
  split
  · split
    · exact h
    · rename_i h16
      split
      · exact h
      · refine h.done (fun x hx => ?_) (by rw [insF_length _ (insK_is s g.R).1]; omega)
        rcases mem_insF.1 hx with rfl | hx
        · refine ⟨?_, by show [].length + unitsD (addB B) ≤ _; simp; omega⟩
          unfold addB
          split <;> trivial
        · exact h.1 x hx
  · split
    · exact h
    · refine h.done (fun x hx => ?_) (by rw [List.length_set]; exact h.2)
      rcases List.mem_or_eq_of_mem_set hx with r | r
      · exact h.1 x r
      · have hg := h.get (atZ s g.R).toNat
        have hl2 := hl.get (atZ s g.R).toNat
        rw [r]
        refine ⟨?_, ?_⟩
        · show fitsD _ (_ ++ addB B)
          unfold addB
          split
          · rw [List.append_nil]; exact hg.1
          · exact fitsD_more _ _ _ hg.1
        · show (g.R.getD (atZ s g.R).toNat f0).2.1.length + unitsD ((g.R.getD (atZ s g.R).toNat f0).2.2 ++ addB B) ≤ _
          rw [unitsD_app]
          omega
theorem Fit.cut {q k : Nat} {g : Sig} (h : Fit g) (hl : Lim q k g) (s : ByteArray) (z : Int) (hq : q + 1 ≤ 4294967296) : Fit (cutG s z g).2 := by
  unfold cutG
  split
  · exact h
  split
  · exact h
  split
  · exact h
  rename_i hz
  refine h.done (fun x hx => ?_) (by rw [List.length_set]; exact h.2)
  rcases List.mem_or_eq_of_mem_set hx with r | r
  · exact h.1 x r
  · have hg := h.get (atZ s g.R).toNat
    have hl2 := hl.get (atZ s g.R).toNat
    rw [r]
    refine ⟨show fitsD (g.R.getD (atZ s g.R).toNat f0).2.1 ((g.R.getD (atZ s g.R).toNat f0).2.2 ++ [Deed.cut z.toNat]) from fits_cut _ _ _ hg.1 (by omega), ?_⟩
    show (g.R.getD (atZ s g.R).toNat f0).2.1.length + unitsD ((g.R.getD (atZ s g.R).toNat f0).2.2 ++ [Deed.cut z.toNat]) ≤ _
    rw [unitsD_app]
    have e : unitsD [Deed.cut z.toNat] = 1 := by simp [unitsD, Deed.units]
    omega
end Go.Proofs.Ytgbpgmbnihfkkaa

/- apportionkit.OverBytes -/
namespace Go.Proofs.Ytgbpgmbnihfkkaa
open Go.RowKit
theorem grownBy_setCell {w w1 : World} {g off : Nat} {v : Value} (h : w.grownBy w1 (some g)) : w.grownBy (w1.setCell ⟨g, off, none⟩ v) (some g) :=
  ⟨h.os, h.tape, h.output, by simpa using h.size, fun k hk hne => by
    rw [Below.heap_setCell _ _ _ _ (by intro e; exact hne (by rw [e]))]; exact h.block k hk hne⟩
theorem xor_u8 (c d : UInt8) : bits .xor .u8 (c.toNat : Int) (d.toNat : Int) = (((c ^^^ d).toNat : Nat) : Int) := by
  rw [u8_xor_nat _ _ c.toNat_lt d.toNat_lt, UInt8.toNat_xor]
theorem u8s_of_all : ∀ vs : List Value, (∀ u ∈ vs, isU8 u) → ∃ l, vs = u8s l
  | [], _ => ⟨[], rfl⟩
  | v :: vs, h => by
    obtain ⟨c, hc⟩ := h v (by simp)
    obtain ⟨l, hl⟩ := u8s_of_all vs (fun u hu => h u (by simp [hu]))
    exact ⟨c :: l, by rw [hc, hl]; rfl⟩
/-- what a step that keeps block g a row of bytes of its length leaves of an owned slice of bytes: one of as many. -/
theorem OwnB.over {w w' : World} {g cap base : Nat} {c1 c2 : Array Value} {u : Value} {l : List UInt8} (h : OwnB w base u l) (h1 : w.heap[g]? = some (.cells c1 5 (0, 0))) (hs1 : c1.size = cap) (h2 : w'.heap[g]? = some (.cells c2 5 (0, 0))) (hs2 : c2.size = cap) (hok : ∀ u, u ∈ c2 → isU8 u)
    (hg : w.grownBy w' (some g)) : ∃ l3 : List UInt8, l3.length = l.length ∧ OwnB w' base u l3 := by
  by_cases hu : u.ownBlock = some g
  · rcases h.1.2 with ⟨rfl, h0⟩ | ⟨g', cap', cur, rfl, hb, hg', hn, hm, hs, ht⟩
    · simp [Value.ownBlock] at hu
    · simp only [Value.ownBlock, Option.some.injEq] at hu
      subst hu
      rw [h1] at hg'
      injection hg' with hg'
      injection hg' with hg' _ _
      subst hg'
      have hcc : cap' = cap := by omega
      subst hcc
      obtain ⟨l3, hl3⟩ := u8s_of_all (c2.toList.take (l.length * 1)) (fun u hu => hok u (by simpa using List.mem_of_mem_take hu))
      have hlen : l3.length = l.length := by
        have := congrArg List.length hl3
        rw [List.length_take, u8s_length] at this
        simp at this
        omega
      refine ⟨l3, hlen, ⟨by simp [u8s], .inr ⟨g', cap', c2, by rw [hlen], hb, h2, by omega, hm, by omega, by rw [hlen]; exact hl3⟩⟩, ?_⟩
      intro g2 c t f e1 e2 u hu
      simp only [Value.ownBlock, Option.some.injEq] at e1
      subst e1
      rw [h2] at e2
      injection e2 with e2
      injection e2 with e2 _ _
      subst e2
      exact hok u hu
  · exact ⟨l, rfl, h.kept hg (fun k hk e => hu (by rw [hk, e]))⟩
end Go.Proofs.Ytgbpgmbnihfkkaa

/- apportionkit.LentBytes, KeptBytes -/
namespace Go.Proofs.Ytgbpgmbnihfkkaa
open Go.RowKit
def mark (i : Nat) : UInt8 := UInt8.ofNat (160 + i % 90)
/-- a lent copy's bytes, k of its marks laid. -/
def lentA (l : List UInt8) (k : Nat) : List UInt8 := (List.range (l.length + 3)).map fun i => if i < l.length then l.getD i 0 else if i < l.length + k then mark i else 0
theorem lentA_length (l : List UInt8) (k : Nat) : (lentA l k).length = l.length + 3 := by simp [lentA]
theorem lentA_get (l : List UInt8) (k i : Nat) (h : i < l.length + 3) : (lentA l k)[i]? = some (if i < l.length then l.getD i 0 else if i < l.length + k then mark i else 0) := by
  unfold lentA
  rw [List.getElem?_map, List.getElem?_range h]; rfl
theorem lentA_set (l : List UInt8) (k : Nat) (h : k < 3) : (u8s (lentA l k)).toArray.setIfInBounds (l.length + k) (u8 (mark (l.length + k))) = (u8s (lentA l (k + 1))).toArray := by
  apply Array.ext_getElem?
  intro i
  rw [Array.getElem?_setIfInBounds]
  by_cases hi : i < l.length + 3
  · simp only [List.getElem?_toArray, u8s, List.getElem?_map, lentA_get _ _ _ hi, Option.map_some, List.size_toArray, List.length_map, lentA_length]
    by_cases hik : l.length + k = i
    · subst hik; simp [h, show ¬ l.length + k < l.length by omega]
    · simp only [hik, if_false]
      by_cases h1 : i < l.length
      · simp [h1]
      · by_cases h2 : i < l.length + k
        · simp [h1, h2, show i < l.length + (k + 1) by omega]
        · simp [h1, h2, show ¬ i < l.length + (k + 1) by omega]
  · rw [if_neg (by omega)]
    simp [u8s, lentA, hi]
theorem lentA_take (l : List UInt8) (k : Nat) : (lentA l k).take l.length = l := by
  apply List.ext_getElem?
  intro i
  rw [List.getElem?_take]
  by_cases h : i < l.length
  · rw [if_pos h, lentA_get _ _ _ (by omega), if_pos h]
    simp [List.getD_eq_getElem?_getD, h]
  · rw [if_neg h, List.getElem?_eq_none (by omega)]
theorem lentA_start (l : List UInt8) : splice (List.replicate (l.length + 3) (Value.int .u8 0)) 0 (u8s l) = u8s (lentA l 0) := by
  have hz : (Value.int .u8 0) = u8 0 := rfl
  apply List.ext_getElem?
  intro i
  unfold splice
  by_cases h : i < l.length
  · simp only [List.take_zero, List.nil_append, Nat.zero_add]
    rw [List.getElem?_append_left (by rw [u8s_length]; exact h)]
    simp only [u8s, List.getElem?_map, lentA_get l 0 i (by omega), if_pos h, Option.map_some]
    simp [List.getD_eq_getElem?_getD, h]
  · simp only [List.take_zero, List.nil_append, Nat.zero_add]
    rw [List.getElem?_append_right (by rw [u8s_length]; omega), u8s_length]
    by_cases h3 : i < l.length + 3
    · simp only [u8s, List.getElem?_map, lentA_get l 0 i h3, if_neg h, Option.map_some]
      rw [List.getElem?_drop, List.getElem?_replicate]
      simp [h, hz]; omega
    · rw [List.getElem?_drop, List.getElem?_replicate]
      simp [u8s, lentA, h3]; omega
theorem made_zero (n : Nat) : (madeCells (Value.int .u8 0).cells (n * 1)).toList = List.replicate n (Value.int .u8 0) := by
  apply List.ext_getElem?
  intro i
  simp only [madeCells, Nat.mul_one, Array.toList_map, Array.toList_range, List.getElem?_map, List.getElem?_replicate]
  by_cases h : i < n
  · rw [List.getElem?_range h]; simp [Value.cells, h, Nat.mod_one]
  · rw [List.getElem?_eq_none (by simpa using h)]; simp [h]
/-- 'copy(full, src)' into the head of a block of the call's own. -/
theorem run_copy_bytes {w : World} (ty g dLen dCap : Nat) (ao : Option Addr) (m c : Nat) (l : List UInt8) (cur : List Value) (t : Nat) (hs : IsBytes w ao m c l) (hm : m ≤ dLen) (hg : w.heap[g]? = some (.cells cur.toArray t (0, 0))) (hfit : m ≤ cur.length) :
    ∃ w', (Builtin.copy_ #[30, 30] ty #[.slice (some ⟨g, 0, none⟩) dLen dCap, .slice ao m c]).run Try.prog w = .ok (goInt m) w' ∧ w'.heap[g]? = some (.cells (splice cur 0 (u8s l)).toArray t (0, 0)) ∧ Below g w w' := by
  have hmin : Nat.min m dLen = m := Nat.min_eq_left hm
  have hz : (Try.prog.info? 5).map (·.size) = some 1 := by kernel_rfl
  cases ao with
  | none =>
    obtain ⟨rfl, rfl⟩ := hs.2.2.2.2 rfl
    obtain rfl : l = [] := List.eq_nil_of_length_eq_zero hs.1
    exact ⟨w, run_copy_none (P := Try.prog) w _ _ ty _ _ _ dLen dCap 0 0 Try.underlying30 hz (by rw [hmin]), by simpa [splice, u8s] using hg, Below.refl _ _⟩
  | some ad =>
    obtain ⟨b, off, spot⟩ := ad
    have h1 := run_copy_row (P := Try.prog) w 30 30 ty 5 g 0 dLen dCap ⟨b, off, spot⟩ m c cur.toArray t (u8s l) Try.underlying30 hz hg (by rw [u8s_length, hs.1, hmin]) hs.cells (by rw [u8s_length, hs.1]; simpa using hfit) (u8s_one l)
    rw [u8s_length, hs.1] at h1
    refine ⟨_, h1, ?_, ⟨rfl, rfl, rfl, by simp, fun k hk => setRow_other _ _ _ _ (by omega)⟩⟩
    rw [setRow_heap _ _ _ _ _ _ hg]
    simp [splice, u8s_length, hs.1]
theorem block_IsBytes {w : World} {g : Nat} {l : List UInt8} (hg : w.heap[g]? = some (.cells (u8s l).toArray 5 (0, 0))) (hm : l.length ≤ maxLen) : IsBytes w (some ⟨g, 0, none⟩) l.length l.length l := by
  refine ⟨rfl, Nat.le_refl _, hm, fun _ => ⟨g, 0, rfl, fun i hi => ?_⟩, fun h => by cases h⟩
  rw [cell_of_row _ _ _ _ _ _ hg, List.getElem?_toArray, Nat.zero_add]
  exact u8s_get l i hi
theorem slice_full (n : Nat) (g : Nat) (w' : World) : (Instr.slice 30 (.slice (some ⟨g, 0, none⟩) n (n + 3)) none (some (.int .i64 ((n : Int) + 3))) none).run Try.prog w' = .ok (.slice (some ⟨g, 0, none⟩) (n + 3) (n + 3)) w' := by
  obtain ⟨i0, hi0, hz0, hz1, hz2⟩ := info_parts Try.infoByte
  have e1 : (Instr.sliceBounds true n (n + 3) none (some (.int .i64 ((n : Int) + 3))) none).run Try.prog w' = .ok (0, n + 3, n + 3) w' := by
    have h0 : (0 : Int) ≤ (n : Int) + 3 := by omega
    have h1 : ((n : Int) + 3).toNat = n + 3 := by omega
    simp [Instr.sliceBounds, Instr.sliceBound, asIntOf, h0, h1]
  simp [Instr.slice, run_underlying Try.underlying30, e1, sizeOf, typeInfo, hi0, Result.andThen, Addr.add]
end Go.Proofs.Ytgbpgmbnihfkkaa

/- apportionref06: number; an append of one slice to a slice of slices -/
namespace Go.Proofs.Ytgbpgmbnihfkkaa
open Go.RowKit
theorem Lists.lt {w : World} {base : Nat} {v : Value} {L : List (List UInt8)} (h : Lists w base v L) : ∀ g, v.ownBlock = some g → base ≤ g ∧ g < w.heap.size := by
  obtain ⟨vs, _, ⟨h2, _⟩, _⟩ := h
  exact fun g hg => h2.lt g hg
theorem wpList_append_lists {w : World} {ops : Array Oper} {rest : List Oper} {o : Oper} {a : Act} {Q : Exit → Act → World → Prop} (hgd : o.guard = none) (s x : Operand)
    (ho : o.op = .call { callee := .builtin .append, args := #[s, x], argTypes := #[25, 25] })
    (base : Nat) (v : Value) (L : List (List UInt8)) (hs : a.eval s = v) (hown : Lists w base v L)
    (g : Nat) (hx : a.eval x = .slice (some ⟨g, 0, none⟩) 1 1) (u : Value) (r : List UInt8) (hu : OwnB w base u r) (hg : w.heap[g]? = some (.cells #[u] 30 (0, 0)))
    (hn : L.length ≤ 4294967296) (hbase : base ≤ w.heap.size)
    (h : ∀ v' w', Lists w' base v' (L ++ [r]) → w.grownBy w' v.ownBlock → wpList Try.prog ops Q rest (a.put o.dst v') w') : wpList Try.prog ops Q (o :: rest) a w := by
  obtain ⟨i0, hi, hz0, hz1, hz2⟩ := info_parts Try.infoSlice
  obtain ⟨vs, h1, ⟨h2, h2a⟩, h3⟩ := hown
  obtain ⟨au, cu, rfl⟩ := ownsRow_shape hu.1
  obtain ⟨v', w', hr, hx2, hgr, hall, _⟩ := run_append_all (P := Try.prog) w base 25 o.type 30 i0 (.slice none 0 0) 1 24 Try.underlying25 hi hz0 hz1 hz2 rfl (by decide) v L.length vs h2 ⟨g, 0, none⟩ 1 1 [.slice au r.length cu] rfl
    (by
      intro j u hu
      match j, hu with
      | 0, hu =>
        simp at hu; subst hu
        rw [show (⟨g, 0, none⟩ : Addr).add 0 = ⟨g, 0, none⟩ from rfl, cell_of_row _ _ _ _ _ _ hg]; rfl)
    (by intro u hu; simp at hu; subst hu; rfl) (by unfold maxLen; omega) (by omega) hbase (fun u => plainV u = true) (by intro u hu; simp [Value.cells] at hu; subst hu; rfl) (by intro u hu; simp at hu; subst hu; rfl) h2a
  refine wpList_plain hgd fun K hK => ?_
  unfold Oper.wp execOp
  simp only [ho, resolve, invoke, builtin, Sem.run_bind, Sem.run_pure, Result.andThen_ok, List.map_toArray, List.map_cons, List.map_nil, hs, hx, hr]
  exact hK _ _ (h v' w' (Lists.snoc h1 h3 h2 hu ⟨hx2, hall⟩ hgr) hgr)
end Go.Proofs.Ytgbpgmbnihfkkaa

/- apportionref06.Scan -/
namespace Go.Proofs.Ytgbpgmbnihfkkaa
open Go.RowKit
theorem scan_stop {b : List UInt8} {c : Nat} (h : Fr.headF b = .inl c) : Fr.scanF b = ([], 0, c) := by rw [Fr.scanF_eq, h]
theorem scan_go {b r : List UInt8} (h : Fr.headF b = .inr r) : Fr.scanF b = (r :: (Fr.scanF (b.drop (r.length + 12))).1, r.length + 12 + (Fr.scanF (b.drop (r.length + 12))).2.1, (Fr.scanF (b.drop (r.length + 12))).2.2) := by rw [Fr.scanF_eq, h]
/-- the state between two rounds. -/
def RInv (w wr : World) (n : Nat) (bs : List UInt8) (out : Value) (pre : List (List UInt8)) (k : Nat) : Prop :=
  Lists wr w.heap.size out pre ∧ Below w.heap.size w wr ∧ Fr.scanF bs = (pre ++ (Fr.scanF (bs.drop k)).1, k + (Fr.scanF (bs.drop k)).2.1, (Fr.scanF (bs.drop k)).2.2) ∧ pre.length ≤ k ∧ k ≤ n
theorem ref_end {w wr w2 : World} {n k c : Nat} {bs rest : List UInt8} {out : Value} {pre : List (List UInt8)} (hinv : RInv w wr n bs out pre k) (hr : rest = bs.drop k) (hh : Fr.headF rest = .inl c) (hb : Below wr.heap.size wr w2) :
    ∃ v, Ending.returned (.tuple #[out, .int .i64 (k : Int), .int .i64 (c : Int)]) = Ending.returned (.tuple #[v, .int .i64 ((Fr.scanF bs).2.1 : Int), .int .i64 ((Fr.scanF bs).2.2 : Int)]) ∧ Lists w2 w.heap.size v (Fr.scanF bs).1 ∧ Below w.heap.size w w2 := by
  have hsc := hinv.2.2.1
  rw [← hr, scan_stop hh] at hsc
  have e1 : (Fr.scanF bs).1 = pre := by rw [hsc]; simp
  have e2 : (Fr.scanF bs).2.1 = k := by rw [hsc]; rfl
  have e3 : (Fr.scanF bs).2.2 = c := by rw [hsc]
  rw [e1, e2, e3]
  exact ⟨_, rfl, hinv.1.later hb, hinv.2.1.trans (hb.mono hinv.2.1.size)⟩
theorem ref_step {w wr w6 : World} {n k m : Nat} {bs rest rec : List UInt8} {out v6 : Value} {pre : List (List UInt8)} (hinv : RInv w wr n bs out pre k) (hr : rest = bs.drop k) (hh : Fr.headF rest = .inr rec) (hm : rec.length = m) (hle : k + m + 12 ≤ n)
    (hl : Lists w6 w.heap.size v6 (pre ++ [rec])) (hb : Below w.heap.size w w6) : RInv w w6 n bs v6 (pre ++ [rec]) (k + m + 12) := by
  refine ⟨hl, hb, ?_, by have := hinv.2.2.2.1; simp; omega, hle⟩
  have hsc := hinv.2.2.1
  rw [← hr, scan_go hh, hr, List.drop_drop, hm, show k + (m + 12) = k + m + 12 by omega] at hsc
  rw [hsc]
  simp [Nat.add_assoc]
end Go.Proofs.Ytgbpgmbnihfkkaa

/- the reference's ledger: Open -/
set_option linter.unusedSimpArgs false
set_option linter.unusedVariables false
namespace Go.Proofs.Ytgbpgmbnihfkkaa
open Go.RowKit
set_option linter.unusedSectionVars false
end Go.Proofs.Ytgbpgmbnihfkkaa

/- layer 28's statements: a pair of disks and ledgers; act at a disk's calls -/
set_option linter.unusedSimpArgs false
set_option linter.unusedVariables false
namespace Go.Proofs.Ytgbpgmbnihfkkaa
open Go.RowKit
set_option linter.unusedSectionVars false
abbrev Z0 : Zone := ⟨fun _ => False⟩
/-- a call. -/
structure ActL where
  kind : Int
  size : Int
  keep : Int
  nm : ByteArray
  ba : Option Addr
  bn : Nat
  bc : Nat
  B : List UInt8
def ActL.row (x : ActL) : Array Value := #[.int .i64 x.kind, .int .i64 x.size, .int .i64 x.keep, .string x.nm, .slice x.ba x.bn x.bc]
section
variable {p d mb r base q k : Nat} {g : Sig} {Lo : Option LSig} {lv mv : Value} {w : World} {x : ActL}
end
end Go.Proofs.Ytgbpgmbnihfkkaa

/- layer 28's statements: act, a crash; a call that asks nothing -/
set_option linter.unusedSimpArgs false
set_option linter.unusedVariables false
namespace Go.Proofs.Ytgbpgmbnihfkkaa
open Go.RowKit
set_option linter.unusedSectionVars false
def I64 (z : Int) : Prop := -9223372036854775808 ≤ z ∧ z ≤ 9223372036854775807
theorem wrap_I64 (z : Int) : I64 (IntKind.i64.wrap z) := by
  unfold I64
  rw [IntKind.wrap_i64]
  omega
theorem keeps4 {w : World} {g : Nat} {a b c d : Int} (hg : w.heap[g]? = some (.cells #[.int .i64 a, .int .i64 b, .int .i64 c, .int .i64 d] 3 (0, 0))) (ha : I64 a) (hb : I64 b) (hc : I64 c) (hd : I64 d) : IsKeeps w (some ⟨g, 0, none⟩) 4 4 [a, b, c, d] := by
  refine ⟨rfl, Nat.le_refl _, by unfold maxLen; omega, (fun e => by cases e), fun i hi => ?_⟩
  have : i = 0 ∨ i = 1 ∨ i = 2 ∨ i = 3 := by omega
  rcases this with rfl | rfl | rfl | rfl
  · exact ⟨g, 0, _, _, _, a, rfl, hg, by decide, rfl, rfl, ha.1, ha.2⟩
  · exact ⟨g, 0, _, _, _, b, rfl, hg, by decide, rfl, rfl, hb.1, hb.2⟩
  · exact ⟨g, 0, _, _, _, c, rfl, hg, by decide, rfl, rfl, hc.1, hc.2⟩
  · exact ⟨g, 0, _, _, _, d, rfl, hg, by decide, rfl, rfl, hd.1, hd.2⟩
theorem keeps4R {w : World} {g : Nat} {a b c d : Int} (hg : w.heap[g]? = some (.cells #[.int .i64 a, .int .i64 b, .int .i64 c, .int .i64 d] 3 (0, 0))) (ha : I64 a) (hb : I64 b) (hc : I64 c) (hd : I64 d) : ∀ i, i < 4 → ∃ b9 off x, (some ⟨g, 0, none⟩ : Option Addr) = some ⟨b9, off, none⟩ ∧ w.cell? ⟨b9, off + i, none⟩ = some (.int .i64 x) ∧ [a, b, c, d].getD i 0 = x ∧ -9223372036854775808 ≤ x ∧ x ≤ 9223372036854775807 := by
  intro i hi
  have : i = 0 ∨ i = 1 ∨ i = 2 ∨ i = 3 := by omega
  rcases this with rfl | rfl | rfl | rfl
  · exact ⟨g, 0, a, rfl, cell_of_row _ _ _ _ _ _ hg, rfl, ha.1, ha.2⟩
  · exact ⟨g, 0, b, rfl, cell_of_row _ _ _ _ _ _ hg, rfl, hb.1, hb.2⟩
  · exact ⟨g, 0, c, rfl, cell_of_row _ _ _ _ _ _ hg, rfl, hc.1, hc.2⟩
  · exact ⟨g, 0, d, rfl, cell_of_row _ _ _ _ _ _ hg, rfl, hd.1, hd.2⟩
section
variable {p d mb r base q k : Nat} {g : Sig} {Lo : Option LSig} {lv mv : Value} {w : World} {x : ActL}
end
end Go.Proofs.Ytgbpgmbnihfkkaa

/- layer 28's statements: act, an Add -/
set_option linter.unusedSimpArgs false
set_option linter.unusedVariables false
namespace Go.Proofs.Ytgbpgmbnihfkkaa
open Go.RowKit
set_option linter.unusedSectionVars false
theorem addG_nm (B : List UInt8) (L : LSig) (g : Sig) : (addG B L g).2.1.nm = L.nm := by
  unfold addG
  repeat' split
  all_goals rfl
theorem lent_reads {w : World} {g n : Nat} {l : List UInt8} (hl : l.length = n) (hn : n ≤ 4294967296) (h : w.heap[g]? = some (.cells (u8s (lentA l 3)).toArray 5 (0, 0))) : IsBytes w (some ⟨g, 0, none⟩) n (n + 3) l := by
  have h1 := block_IsBytes h (by rw [lentA_length]; unfold maxLen; omega)
  rw [lentA_length, hl] at h1
  have h2 := h1.cut n (by omega)
  have e := lentA_take l 3
  rw [hl] at e
  rwa [e] at h2
theorem ne_of_types {w : World} {i j : Nat} {c c' : Array Value} {t t' : TypeId} {fr fr' : Nat × Nat} (h1 : w.heap[i]? = some (.cells c t fr)) (h2 : w.heap[j]? = some (.cells c' t' fr')) (ht : t ≠ t') : (some i : Option Nat) ≠ some j := by
  intro e
  injection e with e
  subst e
  rw [h1] at h2
  injection h2 with h2
  injection h2 with _ h2
  exact ht h2
/-- nothing below base turns, and no bytes anywhere. -/
def Still8 (base : Nat) (w w' : World) : Prop := Below base w w' ∧ ∀ j off v, w.cell? ⟨j, off, none⟩ = some (.int .u8 v) → w'.heap[j]? = w.heap[j]?
theorem Still8.refl (base : Nat) (w : World) : Still8 base w w := ⟨Below.refl _ _, fun _ _ _ _ => rfl⟩
theorem Still8.trans {base : Nat} {a b c : World} (h : Still8 base a b) (k : Still8 base b c) : Still8 base a c := by
  refine ⟨h.1.trans k.1, fun j off v hc => ?_⟩
  have e := h.2 j off v hc
  exact (k.2 j off v ((World.cell?_of_block (a := ⟨j, off, none⟩) e).trans hc)).trans e
theorem Still8.of_below {base : Nat} {w w' : World} (h : Below w.heap.size w w') (hb : base ≤ w.heap.size) : Still8 base w w' := ⟨h.mono hb, fun j _ _ hc => h.block j (block_lt_of_cell hc)⟩
theorem FD.still8 {base : Nat} {x : Option Nat} {w w' : World} (h : FD base x w w') : Still8 base w w' := ⟨h.below, h.u8⟩
section
variable {p d mb r base q k : Nat} {g : Sig} {Lo : Option LSig} {lv mv : Value} {w : World} {x : ActL}
end
end Go.Proofs.Ytgbpgmbnihfkkaa
