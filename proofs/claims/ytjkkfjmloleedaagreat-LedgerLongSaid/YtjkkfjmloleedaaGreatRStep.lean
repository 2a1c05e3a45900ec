/- the reference's disk (apportionref27): its memory; bytes, Bytes, units -/
import Derived.Test.YtjkkfjmloleedaaGreatRow3
namespace Go.Proofs.YtjkkfjmloleedaaGreat
open Go.RowKit
set_option linter.unusedSectionVars false
variable [Zone]
/-- an act's three cells. -/
def IsRAct (w : World) (c0 c1 c2 : Value) : Deed → Prop
  | .more x => c0 = .bool false ∧ c1 = .int .i64 0 ∧ ∃ a n c, c2 = .slice a n c ∧ IsBytesZ w a n c x
  | .cut z => c0 = .bool true ∧ c1 = .int .i64 (z : Int) ∧ c2 = .slice none 0 0
theorem IsRAct.moved {w w' : World} {c0 c1 c2 : Value} {d : Deed} (h : IsRAct w c0 c1 c2 d) (hm : ∀ j off v, w.cell? ⟨j, off, none⟩ = some (.int .u8 v) → w'.heap[j]? = w.heap[j]?) : IsRAct w' c0 c1 c2 d := by
  cases d with
  | more x => obtain ⟨h0, h1, a, n, c, e, hb⟩ := h; exact ⟨h0, h1, a, n, c, e, hb.moved hm⟩
  | cut z => exact h
/-- the cells of acts. -/
def Acts3 (w : World) (T : List V3) (D : List Deed) : Prop := T.length = D.length ∧ ∀ i, i < D.length → IsRAct w (T.getD i v30).1 (T.getD i v30).2.1 (T.getD i v30).2.2 (D.getD i (.cut 0))
theorem Acts3.nil (w : World) : Acts3 w [] [] := ⟨rfl, fun i h => absurd h (by simp)⟩
theorem Acts3.moved {w w' : World} {T : List V3} {D : List Deed} (h : Acts3 w T D) (hm : ∀ j off v, w.cell? ⟨j, off, none⟩ = some (.int .u8 v) → w'.heap[j]? = w.heap[j]?) : Acts3 w' T D := ⟨h.1, fun i hi => (h.2 i hi).moved hm⟩
theorem Acts3.later {w w' : World} {T : List V3} {D : List Deed} (h : Acts3 w T D) (hb : Below w.heap.size w w') : Acts3 w' T D := h.moved fun j _ _ hc => hb.block j (block_lt_of_cell hc)
theorem Acts3.push {w : World} {T : List V3} {D : List Deed} {t : V3} {d : Deed} (h : Acts3 w T D) (ht : IsRAct w t.1 t.2.1 t.2.2 d) : Acts3 w (T ++ [t]) (D ++ [d]) := by
  refine ⟨by simp [h.1], fun i hi => ?_⟩
  simp only [List.length_append, List.length_cons, List.length_nil] at hi
  by_cases hl : i < D.length
  · have e1 : (T ++ [t]).getD i v30 = T.getD i v30 := by simp [List.getD_eq_getElem?_getD, List.getElem?_append_left (show i < T.length by rw [h.1]; exact hl)]
    have e2 : (D ++ [d]).getD i (.cut 0) = D.getD i (.cut 0) := by simp [List.getD_eq_getElem?_getD, List.getElem?_append_left hl]
    rw [e1, e2]
    exact h.2 i hl
  · obtain rfl : i = D.length := by omega
    have e1 : (T ++ [t]).getD D.length v30 = t := by rw [← h.1]; simp [List.getD_eq_getElem?_getD]
    have e2 : (D ++ [d]).getD D.length (.cut 0) = d := by simp [List.getD_eq_getElem?_getD]
    rw [e1, e2]
    exact ht
/-- a slice of acts. -/
def IsRActs (w : World) (ao : Option Addr) (n cap : Nat) (D : List Deed) : Prop := ∃ T, Is3 w 97 ao n cap T ∧ Acts3 w T D
theorem IsRActs.nil (w : World) : IsRActs w none 0 0 [] := ⟨[], Is3.nil _ _, Acts3.nil w⟩
theorem IsRActs.len {w : World} {ao : Option Addr} {n cap : Nat} {D : List Deed} (h : IsRActs w ao n cap D) : D.length = n ∧ n ≤ cap ∧ cap ≤ maxLen := by
  obtain ⟨T, h1, h2⟩ := h
  exact ⟨h2.1.symm.trans h1.1, h1.2.1, h1.2.2.1⟩
theorem IsRActs.cells {w : World} {ao : Option Addr} {n cap : Nat} {D : List Deed} (h : IsRActs w ao n cap D) {i : Nat} (hi : i < n) : ∃ b off c0 c1 c2, ao = some ⟨b, off, none⟩ ∧ w.cell? ⟨b, off + i * 3, none⟩ = some c0 ∧ w.cell? ⟨b, off + i * 3 + 1, none⟩ = some c1 ∧ w.cell? ⟨b, off + i * 3 + 2, none⟩ = some c2 ∧ IsRAct w c0 c1 c2 (D.getD i (.cut 0)) := by
  have hl := h.len.1
  obtain ⟨T, h1, h2⟩ := h
  obtain ⟨b, off, e, g0, g1, g2⟩ := h1.cells hi
  exact ⟨b, off, _, _, _, e, g0, g1, g2, h2.2 i (by omega)⟩
theorem IsRActs.moved {w w' : World} {ao : Option Addr} {n cap : Nat} {D : List Deed} (h : IsRActs w ao n cap D) (hm : ∀ j off v, w.cell? ⟨j, off, none⟩ = some (.int .u8 v) → w'.heap[j]? = w.heap[j]?)
    (ha : ∀ (j : Nat) (c : Array Value) (fr : Nat × Nat), w.heap[j]? = some (Obj.cells c 97 fr) → w'.heap[j]? = w.heap[j]?) : IsRActs w' ao n cap D := by
  obtain ⟨T, h1, h2⟩ := h
  exact ⟨T, h1.move ha, h2.moved hm⟩
theorem IsRActs.later {w w' : World} {ao : Option Addr} {n cap : Nat} {D : List Deed} (h : IsRActs w ao n cap D) (hb : Below w.heap.size w w') : IsRActs w' ao n cap D :=
  h.moved (fun j _ _ hc => hb.block j (block_lt_of_cell hc)) (fun j _ _ hj => hb.block j (heap_lt hj))
set_option maxRecDepth 100000 in
theorem rbytes_any (ao : Option Addr) (n cap : Nat) (S : List UInt8) (al : Option Addr) (m capl : Nat) (D : List Deed) (w : World) (hs : IsBytes w ao n cap S) (hd : IsRActs w al m capl D) (hf : fitsD S D) (hsm : S.length + unitsD D ≤ 4294967296) :
    Calls Tryz.prog 54 #[.slice ao n cap, .slice al m capl] w fun e w' => ∃ v, e = .returned v ∧ OwnB w' w.heap.size v (runD S D) ∧ Below w.heap.size w w' := by
  have hm := hd.len.2.1
  have hcm := hd.len.2.2
  unfold maxLen at hcm
  have HS := Lib.hid hs
  have HD := Lib.hid hd
  have HF := Lib.hid hf
  have HSM := Lib.hid hsm
  have HSL : Hid (S.length = n) := Lib.hid hs.1
  clear hs hd hf hsm
  go_enter Tryz.func54, Tryz.ntmps54
  go_wp2_with (at_builtin; refine wpList_append_bytes rfl _ _ rfl w.heap.size (.slice (some ⟨w.heap.size, 0, none⟩) 0 0) [] rfl (OwnB.none_new w _ (Nat.le_refl _)) ao n cap S rfl (HS.out.later ((Below.refl _ _).alloc (Nat.le_refl _) _)) (by have := HSL.out; have := HSM.out; simp; omega) (by simp) ?_; intro v1 w1 hown1 hg1; have H1 := Lib.hid (And.intro (show OwnB w1 w.heap.size v1 S from hown1) (((Below.refl _ _).alloc (Nat.le_refl _) _).grown hg1 (by simp) (fun k hk => ((OwnB.none_new w _ (Nat.le_refl _)).1.lt k hk).1))); clear hown1 hg1)
  go_loopw [5, 6] (fun b5 i wr => ∃ k b, k ≤ m ∧ i = .int .i64 ((k : Nat) : Int) ∧ Hid (OwnB wr w.heap.size b5 b) ∧ Hid (runD S D = runD b (D.drop k) ∧ b.length ≤ S.length + ((D.take k).map Deed.units).sum ∧ fitsD b (D.drop k)) ∧ Hid (Below w.heap.size w wr)) (fun _ i _ => m - (intOf i).toNat)
  case atStart => exact ⟨0, S, by omega, rfl, Lib.hid H1.out.1, Lib.hid ⟨rfl, by simp, HF.out⟩, Lib.hid H1.out.2⟩
  case round =>
    obtain ⟨k, b, hk, rfl, hown, heq, hbl⟩ := hrel
    by_cases hlt : k < m
    · have hi0 : (0 : Int) ≤ (k : Int) := by omega
      have hi5 : (k : Int) < (m : Int) := by omega
      obtain ⟨g, off, c0, c1, c2, rfl, g0, g1, g2, hv⟩ := (HD.out.later hbl.out).cells hlt
      have hkl : k < D.length := by rw [HD.out.len.1]; exact hlt
      obtain ⟨x, hx⟩ : ∃ x, x = D.getD k (.cut 0) := ⟨_, rfl⟩
      have hdk : D.drop k = x :: D.drop (k + 1) := by
        rw [List.drop_eq_getElem_cons hkl, hx, List.getD_eq_getElem?_getD, List.getElem?_eq_getElem hkl]; rfl
      have hun := take_units HD.out.len.1 hlt
      rw [← hx] at hun hv
      have hle := take_units_le D (k + 1)
      have HX := Lib.hid (And.intro hdk (And.intro hun hle))
      obtain ⟨a5, cap5, e5, hb5, _⟩ := hown.out.bytes
      subst e5
      clear hdk hun hle hx
      cases x with
      | more bs =>
        obtain ⟨rfl, rfl, a, q, cq, rfl, hbs, _⟩ := hv
        have HBS := Lib.hid hbs
        have hnm : b.length + q ≤ 140737488355328 := by
          obtain ⟨r1, r2, r3⟩ := HX.out
          have := heq.out.2.1
          have := HSM.out
          have := hbs.1
          simp only [Deed.units] at r2
          unfold unitsD at *
          omega
        clear hbs hb5
        go_wp2_with (at_builtin; refine wpList_append_bytes rfl _ _ rfl w.heap.size _ b rfl hown.out a q cq bs rfl HBS.out hnm hbl.out.size ?_; intro v2 w2 hown2 hg2; have H2 := Lib.hid (And.intro hown2 (hbl.out.grown hg2 hbl.out.size (fun j hj => (hown.out.1.lt j hj).1))); clear hown2 hg2)
        go_roundw
        case rel =>
          obtain ⟨r1, r2, r3⟩ := HX.out
          obtain ⟨s1, s2, s3⟩ := heq.out
          refine ⟨k + 1, b ++ bs, by omega, by go_num, Lib.hid H2.out.1, Lib.hid ⟨?_, ?_, ?_⟩, Lib.hid H2.out.2⟩
          · rw [s1, r1]; rfl
          · simp only [Deed.units] at r2
            rw [List.length_append]
            omega
          · rw [r1] at s3; exact s3
        case measure => simp [intOf]; omega
      | cut y =>
        obtain ⟨rfl, rfl, rfl⟩ := hv
        have hyb : y ≤ b.length ∧ fitsD (b.take y) (D.drop (k + 1)) := by
          have := heq.out.2.2
          rw [HX.out.1] at this
          exact this
        have hst := slice_to hb5 y hyb.1
        have hsl := hst.1
        have HY := Lib.hid hyb
        clear hst hyb hb5
        go_wp2_with fail
        go_roundw
        case rel =>
          obtain ⟨r1, r2, r3⟩ := HX.out
          obtain ⟨s1, s2, s3⟩ := heq.out
          refine ⟨k + 1, b.take y, by omega, by go_num, Lib.hid (hown.out.short y HY.out.1), Lib.hid ⟨?_, ?_, HY.out.2⟩, hbl⟩
          · rw [s1, r1]; rfl
          · simp only [Deed.units] at r2
            rw [List.length_take]
            omega
        case measure => simp [intOf]; omega
    · obtain rfl : k = m := by omega
      go_wp2_with fail
      go_ret
      have h1 := heq.out.1
      rw [List.drop_of_length_le (by rw [HD.out.len.1]; exact Nat.le_refl _)] at h1
      rw [h1]
      exact ⟨_, rfl, hown.out, hbl.out⟩
theorem take_units_all (D : List Deed) (n : Nat) (h : D.length = n) : ((D.take n).map Deed.units).sum = unitsD D := by
  rw [List.take_of_length_le (by omega)]
  rfl
set_option maxRecDepth 100000 in
theorem Bytes_any (nm : ByteArray) (ao : Option Addr) (n cap : Nat) (S : List UInt8) (al : Option Addr) (m capl : Nat) (D : List Deed) (w : World) (hs : IsBytes w ao n cap S) (hd : IsRActs w al m capl D) (hf : fitsD S D) (hsm : S.length + unitsD D ≤ 4294967296) :
    Calls Tryz.prog 64 #[.agg #[.string nm, .slice ao n cap, .slice al m capl]] w fun e w' => ∃ v, e = .returned v ∧ OwnB w' w.heap.size v (runD S D) ∧ Below w.heap.size w w' := by
  have HS := Lib.hid (And.intro hs (And.intro hd (And.intro hf hsm)))
  clear hs hd hf hsm
  go_enter Tryz.func64, Tryz.ntmps64
  go_wp2_with fail
  have hb1 : Below w.heap.size w (w.alloc (.cells #[.string nm, .slice ao n cap, .slice al m capl] 86)) := (Below.refl _ _).alloc (Nat.le_refl _) _
  have HB1 := Lib.hid hb1
  refine (rbytes_any ao n cap S al m capl D _ (HS.out.1.later hb1) (HS.out.2.1.later hb1) HS.out.2.2.1 HS.out.2.2.2).mono ?_
  clear hb1
  rintro e w2 ⟨v, rfl, hown, hb⟩
  have H2 : Hid (OwnB w2 w.heap.size v (runD S D) ∧ Below w.heap.size w w2) := Lib.hid ⟨⟨ownsRow_base hown.1 HB1.out.size, hown.2⟩, HB1.out.trans (hb.mono HB1.out.size)⟩
  clear hown hb
  go_wp2_with fail
  go_ret
  exact ⟨_, rfl, H2.out⟩
set_option maxRecDepth 100000 in
theorem units_any (nm : ByteArray) (sv : Value) (al : Option Addr) (m capl : Nat) (D : List Deed) (w : World) (hd : IsRActs w al m capl D) (hsm : unitsD D ≤ 4294967296) :
    Calls Tryz.prog 53 #[.agg #[.string nm, sv, .slice al m capl]] w fun e w' => e = .returned (.int .i64 (unitsD D : Nat)) ∧ Below w.heap.size w w' := by
  have hm := hd.len.2.1
  have hcm := hd.len.2.2
  unfold maxLen at hcm
  have HD := Lib.hid hd
  have HSM := Lib.hid hsm
  clear hd hsm
  go_enter Tryz.func53, Tryz.ntmps53
  go_wp2_with fail
  have hb1 : Below w.heap.size w (w.alloc (.cells #[.string nm, sv, .slice al m capl] 86)) := (Below.refl _ _).alloc (Nat.le_refl _) _
  have hx := heap_alloc_new w (.cells #[.string nm, sv, .slice al m capl] 86)
  obtain ⟨N, hN⟩ : ∃ N, N = w.heap.size := ⟨_, rfl⟩
  rw [← hN] at hx ⊢
  generalize w.alloc (.cells #[.string nm, sv, .slice al m capl] 86) = w1 at hb1 hx ⊢
  have HB1 := Lib.hid (And.intro hb1 hN)
  have c2 : w1.cell? ⟨N, 2, none⟩ = some (.slice al m capl) := cell_of_row _ _ _ _ _ _ hx
  clear hb1 hx hN
  go_wp2_with fail
  go_loopw [3, 4] (fun s i wr => ∃ k : Nat, k ≤ m ∧ i = .int .i64 ((k : Nat) : Int) ∧ s = .int .i64 (((D.take k).map Deed.units).sum : Nat) ∧ w1 = wr) (fun _ i _ => m - (intOf i).toNat)
  case atStart => exact ⟨0, by omega, rfl, rfl, rfl⟩
  case round =>
    obtain ⟨k, hk, rfl, rfl, rfl⟩ := hrel
    by_cases hlt : k < m
    · have hi0 : (0 : Int) ≤ (k : Int) := by omega
      have hi5 : (k : Int) < (m : Int) := by omega
      obtain ⟨g, off, q0, q1, q2, rfl, g0, g1, g2, hv⟩ := (HD.out.later HB1.out.1).cells hlt
      obtain ⟨x, hx⟩ : ∃ x, x = D.getD k (.cut 0) := ⟨_, rfl⟩
      have hun := take_units HD.out.len.1 hlt
      rw [← hx] at hun hv
      have hle := Nat.le_trans (take_units_le D (k + 1)) HSM.out
      obtain ⟨t, ht⟩ : ∃ t, t = ((D.take k).map Deed.units).sum := ⟨_, rfl⟩
      rw [← ht] at hun ⊢
      have HU := Lib.hid (And.intro hun hle)
      clear hx ht
      cases x with
      | more bs =>
        obtain ⟨rfl, rfl, a, q, cq, rfl, hbs, _⟩ := hv
        have hql := hbs.1
        have hw : IntKind.i64.wrap ((t : Int) + (q : Int)) = (t : Int) + (q : Int) := IntWalk.i64_in _ (by simp only [Deed.units] at hun; omega)
        have HQ := Lib.hid hql
        clear hbs hun hle hql
        go_wp2_with fail
        go_roundw
        case rel => exact ⟨k + 1, by omega, by go_num, by have h1 := HU.out.1; simp only [Deed.units] at h1; rw [h1, HQ.out]; push_cast; rfl, trivial⟩
        case measure => simp [intOf]; omega
      | cut y =>
        obtain ⟨rfl, rfl, rfl⟩ := hv
        have hw : IntKind.i64.wrap ((t : Int) + 1) = (t : Int) + 1 := IntWalk.i64_in _ (by simp only [Deed.units] at hun; omega)
        clear hun hle
        go_wp2_with fail
        go_roundw
        case rel => exact ⟨k + 1, by omega, by go_num, by have h1 := HU.out.1; simp only [Deed.units] at h1; rw [h1]; push_cast; rfl, trivial⟩
        case measure => simp [intOf]; omega
    · obtain rfl : k = m := by omega
      rw [take_units_all D k HD.out.len.1]
      go_wp2_with fail
      go_ret
      exact ⟨rfl, HB1.out.2 ▸ HB1.out.1⟩
end Go.Proofs.YtjkkfjmloleedaaGreat

/- the reference's disk: At, step, Fuse, Loose, Read -/
namespace Go.Proofs.YtjkkfjmloleedaaGreat
open Go.RowKit
set_option linter.unusedSectionVars false
variable [Zone]
/-- a file: its name, its safe bytes, what is under way. -/
abbrev FileV := ByteArray × List UInt8 × List Deed
def f0 : FileV := (ByteArray.empty, [], [])
/-- a file's three cells. -/
def IsRFile (w : World) (t : V3) (x : FileV) : Prop := t.1 = .string x.1 ∧ (∃ a n c, t.2.1 = .slice a n c ∧ IsBytesZ w a n c x.2.1) ∧ (∃ a n c, t.2.2 = .slice a n c ∧ IsRActs w a n c x.2.2)
def Files3 (w : World) (T : List V3) (R : List FileV) : Prop := T.length = R.length ∧ ∀ i, i < R.length → IsRFile w (T.getD i v30) (R.getD i f0)
theorem IsRFile.moved {w w' : World} {t : V3} {x : FileV} (h : IsRFile w t x) (hm : ∀ j off v, w.cell? ⟨j, off, none⟩ = some (.int .u8 v) → w'.heap[j]? = w.heap[j]?)
    (ha : ∀ (j : Nat) (c : Array Value) (fr : Nat × Nat), w.heap[j]? = some (Obj.cells c 97 fr) → w'.heap[j]? = w.heap[j]?) : IsRFile w' t x := by
  obtain ⟨h0, ⟨a, n, c, e, hb⟩, ⟨a2, n2, c2, e2, hd⟩⟩ := h
  exact ⟨h0, ⟨a, n, c, e, hb.moved hm⟩, ⟨a2, n2, c2, e2, hd.moved hm ha⟩⟩
theorem Files3.moved {w w' : World} {T : List V3} {R : List FileV} (h : Files3 w T R) (hm : ∀ j off v, w.cell? ⟨j, off, none⟩ = some (.int .u8 v) → w'.heap[j]? = w.heap[j]?)
    (ha : ∀ (j : Nat) (c : Array Value) (fr : Nat × Nat), w.heap[j]? = some (Obj.cells c 97 fr) → w'.heap[j]? = w.heap[j]?) : Files3 w' T R := ⟨h.1, fun i hi => (h.2 i hi).moved hm ha⟩
theorem Files3.later {w w' : World} {T : List V3} {R : List FileV} (h : Files3 w T R) (hb : Below w.heap.size w w') : Files3 w' T R := h.moved (fun j _ _ hc => hb.block j (block_lt_of_cell hc)) (fun j _ _ hj => hb.block j (heap_lt hj))
/-- a disk's own five cells. -/
def RefRow (w : World) (r : Nat) (v : Value) (N : Int) (fz : Bool) (lf : Int) (out : Bool) : Prop := w.heap[r]? = some (.cells #[v, .int .i64 N, .bool fz, .int .i64 lf, .bool out] 29 (0, 0))
/-- the reference's disk. -/
def RefAt (w : World) (r base : Nat) (R : List FileV) (N : Int) (fz : Bool) (lf : Int) (out : Bool) : Prop := base ≤ r ∧ ∃ v T, RefRow w r v N fz lf out ∧ Own3 w base 86 v T ∧ Files3 w T R
theorem RefRow.lt {w : World} {r : Nat} {v : Value} {N lf : Int} {fz out : Bool} (h : RefRow w r v N fz lf out) : r < w.heap.size := heap_lt h
theorem RefAt.later {w w' : World} {r base : Nat} {R : List FileV} {N lf : Int} {fz out : Bool} (h : RefAt w r base R N fz lf out) (hb : Below w.heap.size w w') : RefAt w' r base R N fz lf out := by
  obtain ⟨h0, v, T, h1, h2, h3⟩ := h
  exact ⟨h0, v, T, (hb.block r h1.lt).trans h1, h2.later hb, h3.later hb⟩
/-- the block in which a disk's files lie. -/
def listOf (w : World) (r : Nat) : Option Nat := match w.cell? ⟨r, 0, none⟩ with
  | some v => v.ownBlock
  | none => none
theorem listOf_row {w : World} {r : Nat} {v : Value} {N lf : Int} {fz out : Bool} (h : RefRow w r v N fz lf out) : listOf w r = v.ownBlock := by
  unfold listOf
  rw [cell_of_row _ _ _ _ _ _ h]
  rfl
theorem listOf_same {w w' : World} {r : Nat} (h : w'.heap[r]? = w.heap[r]?) : listOf w' r = listOf w r := by
  unfold listOf
  rw [World.cell?_of_block (w := w) h]
/-- of the old blocks only r, and that in which its files lie, may have changed. -/
structure MovedR (r base : Nat) (w w' : World) : Prop where
  below : Below base w w'
  block : ∀ j, j < w.heap.size → j ≠ r → listOf w r ≠ some j → w'.heap[j]? = w.heap[j]?
  row : ∀ k, listOf w' r = some k → listOf w r = some k ∨ w.heap.size ≤ k
theorem MovedR.refl (r base : Nat) (w : World) : MovedR r base w w := ⟨Below.refl _ _, fun _ _ _ _ => rfl, fun _ h => .inl h⟩
theorem MovedR.trans {r base : Nat} {a b c : World} (h : MovedR r base a b) (k : MovedR r base b c) : MovedR r base a c := by
  refine ⟨h.below.trans k.below, fun j hj h1 h2 => ?_, fun x hx => ?_⟩
  · refine (k.block j (Nat.lt_of_lt_of_le hj h.below.size) h1 (fun hr => ?_)).trans (h.block j hj h1 h2)
    rcases h.row j hr with q | q
    · exact h2 q
    · omega
  · rcases k.row x hx with q | q
    · exact h.row x q
    · exact .inr (Nat.le_trans h.below.size q)
theorem MovedR.of_below {r base : Nat} {w w' : World} (h : Below w.heap.size w w') (hr : r < w.heap.size) (hb : base ≤ w.heap.size) : MovedR r base w w' :=
  ⟨h.mono hb, fun j hj _ _ => h.block j hj, fun k hk => .inl (by rwa [listOf_same (h.block r hr)] at hk)⟩
/-- where a name stands. -/
def AtR (s : ByteArray) (R : List FileV) (z : Int) : Prop := (∃ k : Nat, z = (k : Int) ∧ k < R.length ∧ (R.getD k f0).1 = s ∧ ∀ j, j < k → (R.getD j f0).1 ≠ s) ∨ (z = -1 ∧ ∀ j, j < R.length → (R.getD j f0).1 ≠ s)
set_option maxRecDepth 100000 in
theorem At_any (s : ByteArray) (r base : Nat) (R : List FileV) (N : Int) (fz : Bool) (lf : Int) (out : Bool) (w : World) (h : RefAt w r base R N fz lf out) :
    Calls Tryz.prog 62 #[.pointer (some ⟨r, 0, none⟩), .string s] w fun e w' => ∃ z, e = .returned (.int .i64 z) ∧ AtR s R z ∧ w = w' := by
  obtain ⟨hbr, v, T, hr, hown, hf⟩ := h
  obtain ⟨ao, cap, hv, h3⟩ := hown.is3
  subst hv
  have hTl := hf.1
  have hcap := h3.2.1
  have hcm := h3.2.2.1
  unfold maxLen at hcm
  obtain ⟨n, hn⟩ : ∃ n, n = T.length := ⟨_, rfl⟩
  rw [← hn] at hr h3 hcap
  have r0 : w.cell? ⟨r, 0, none⟩ = some (.slice ao n cap) := cell_of_row _ _ _ _ _ _ hr
  have H3 := Lib.hid (And.intro h3 (And.intro hf (show R.length = n by omega)))
  clear hr hown h3 hf hn hTl
  go_enter Tryz.func62, Tryz.ntmps62
  go_wp2_with fail
  go_loopw [5] (fun i wr => ∃ k : Nat, k ≤ n ∧ i = .int .i64 k ∧ Hid (∀ j, j < k → (R.getD j f0).1 ≠ s) ∧ w = wr) (fun i _ => n - (intOf i).toNat)
  case atStart => exact ⟨0, by omega, rfl, Lib.hid (fun j hj => absurd hj (by omega)), rfl⟩
  case round =>
    obtain ⟨k, hk, rfl, hall, rfl⟩ := hrel
    by_cases hlt : k < n
    · have hi0 : (0 : Int) ≤ (k : Int) := by omega
      have hi1 : (k : Int) < (n : Int) := by omega
      obtain ⟨b, off, rfl, g0, _, _⟩ := H3.out.1.cells hlt
      have hfk := H3.out.2.1.2 k (by rw [H3.out.2.2]; exact hlt)
      rw [hfk.1] at g0
      obtain ⟨x, hx⟩ : ∃ x, x = (R.getD k f0).1 := ⟨_, rfl⟩
      rw [← hx] at g0
      have HX := Lib.hid hx
      clear hfk hx
      by_cases hxs : x = s
      · have hbx : (x.toList == s.toList) = true := by rw [hxs]; simp
        go_wp2_with fail
        go_ret
        exact ⟨k, rfl, .inl ⟨k, rfl, by rw [H3.out.2.2]; exact hlt, by rw [← HX.out, hxs], hall.out⟩, rfl⟩
      · have hbx : (x.toList == s.toList) = false := by
          rw [Lib.toList_data, Lib.toList_data]
          exact beq_false_of_ne (fun e => hxs (bytes_inj e))
        go_wp2_with fail
        go_roundw
        case rel =>
          refine ⟨k + 1, by omega, by go_num, Lib.hid (fun j hj => ?_), trivial⟩
          rcases Nat.lt_succ_iff_lt_or_eq.1 hj with hj | rfl
          · exact hall.out j hj
          · rw [← HX.out]; exact hxs
        case measure => simp [intOf]; omega
    · obtain rfl : k = n := by omega
      have hi1 : ¬ (k : Int) < (k : Int) := by omega
      go_wp2_with fail
      go_ret
      exact ⟨-1, rfl, .inr ⟨rfl, by rw [H3.out.2.2]; exact hall.out⟩, rfl⟩
/-- r's own cells change: its files stay. -/
theorem RefAt.cell {w : World} {r base : Nat} {R : List FileV} {N lf N' lf' : Int} {fz out fz' out' : Bool} {off : Nat} {u : Value} (h : RefAt w r base R N fz lf out) (hnew : ∀ v, RefRow w r v N fz lf out → RefRow (w.setCell ⟨r, off, none⟩ u) r v N' fz' lf' out'):
    RefAt (w.setCell ⟨r, off, none⟩ u) r base R N' fz' lf' out' ∧ MovedR r base w (w.setCell ⟨r, off, none⟩ u) := by
  obtain ⟨hbr, v, T, hr, hown, hf⟩ := h
  have hne : v.ownBlock ≠ some r := by
    intro e
    rcases hown.1.2 with ⟨rfl, _⟩ | ⟨g, cap, cur, rfl, _, hg, _⟩
    · simp [Value.ownBlock] at e
    · simp only [Value.ownBlock, Option.some.injEq] at e
      subst e
      unfold RefRow at hr
      rw [hr] at hg
      injection hg with hg
      injection hg with _ hg
      exact absurd hg (by decide)
  have hpl : ∀ j o x, w.cell? ⟨j, o, none⟩ = some (.int .u8 x) → (w.setCell ⟨r, off, none⟩ u).heap[j]? = w.heap[j]? := by
    intro j o x hc
    refine Below.heap_setCell _ _ _ _ (fun e => ?_)
    obtain ⟨ao, cap, rfl, _⟩ := hown.is3
    have hp : Plain w r := plain_of_cells hr (by simp [plainV])
    have e' : j = r := e
    rw [e'] at hc
    have := hp _ _ hc
    simp [plainV] at this
  refine ⟨⟨hbr, v, T, hnew v hr, hown.move (fun g hg => Below.heap_setCell _ _ _ _ (fun e => hne (hg.trans (congrArg some e)))), hf.moved hpl (fun j c fr hj => Below.heap_setCell _ _ _ _ ?_)⟩, ⟨⟨rfl, rfl, rfl, by simp, fun j hj => Below.heap_setCell _ _ _ _ (by dsimp only; omega)⟩, fun j _ hj _ => Below.heap_setCell _ _ _ _ hj, fun k hk => .inl ?_⟩⟩
  · rintro rfl
    unfold RefRow at hr
    rw [hr] at hj
    injection hj with hj
    injection hj with _ hj
    exact absurd hj (by decide)
  · rw [listOf_row (hnew v hr)] at hk
    rw [listOf_row hr]
    exact hk
theorem RefRow.cells {w : World} {r : Nat} {v : Value} {N lf : Int} {fz out : Bool} (h : RefRow w r v N fz lf out) :
    w.cell? ⟨r, 0, none⟩ = some v ∧ w.cell? ⟨r, 1, none⟩ = some (.int .i64 N) ∧ w.cell? ⟨r, 2, none⟩ = some (.bool fz) ∧ w.cell? ⟨r, 3, none⟩ = some (.int .i64 lf) ∧ w.cell? ⟨r, 4, none⟩ = some (.bool out) :=
  ⟨cell_of_row _ _ _ _ _ _ h, cell_of_row _ _ _ _ _ _ h, cell_of_row _ _ _ _ _ _ h, cell_of_row _ _ _ _ _ _ h, cell_of_row _ _ _ _ _ _ h⟩
theorem RefAt.row {w : World} {r base : Nat} {R : List FileV} {N lf : Int} {fz out : Bool} (h : RefAt w r base R N fz lf out) : ∃ v, RefRow w r v N fz lf out := by
  obtain ⟨_, v, T, hr, _⟩ := h
  exact ⟨v, hr⟩
end Go.Proofs.YtjkkfjmloleedaaGreat

/- the reference's disk: step, Fuse, Loose, Read, name -/
namespace Go.Proofs.YtjkkfjmloleedaaGreat
open Go.RowKit
set_option linter.unusedSectionVars false
variable [Zone]
/-- what it tells. -/
def RStepR (r base : Nat) (R : List FileV) (N : Int) (fz : Bool) (lf : Int) (out : Bool) (w : World) (e : Ending) (w' : World) : Prop := MovedR r base w w' ∧ (((fz = true ∧ lf = 0) ∧ e = .returned (.bool false) ∧ RefAt w' r base R N fz lf true) ∨ (¬ (fz = true ∧ lf = 0) ∧ e = .returned (.bool true) ∧ RefAt w' r base R (N + 1) fz (if fz = true then lf - 1 else lf) out))
set_option maxRecDepth 100000 in
/-- a step of the reference's disk. -/
theorem rstep_any (r base : Nat) (R : List FileV) (N : Int) (fz : Bool) (lf : Int) (out : Bool) (w : World) (hN0 : 0 ≤ N) (hN1 : N ≤ 1000000) (hl0 : 0 ≤ lf) (hl1 : lf ≤ 9223372036854775807) (h : RefAt w r base R N fz lf out) :
    Calls Tryz.prog 65 #[.pointer (some ⟨r, 0, none⟩)] w fun e w' => RStepR r base R N fz lf out w e w' := by
  obtain ⟨v, hr⟩ := h.row
  obtain ⟨r0, r1, r2, r3, r4⟩ := hr.cells
  have H := Lib.hid h
  have z1 : w.frozen? ⟨r, 1, none⟩ = false := frozen_of_row _ _ _ _ _ hr
  have z3 : w.frozen? ⟨r, 3, none⟩ = false := frozen_of_row _ _ _ _ _ hr
  have z4 : w.frozen? ⟨r, 4, none⟩ = false := frozen_of_row _ _ _ _ _ hr
  have hwN : IntKind.i64.wrap (N + 1) = N + 1 := IntWalk.i64_in _ (by omega)
  cases fz with
  | true =>
    by_cases h0 : lf = 0
    · have h0b : (lf == 0) = true := by simp [h0]
      have HRES := Lib.hid (h.cell (off := 4) (u := .bool true) (N' := N) (fz' := true) (lf' := lf) (out' := true) (fun v hr => heap_setCell_same w r 4 _ _ (.bool true) hr))
      subst h0
      clear h hr r0 r1
      go_enter Tryz.func65, Tryz.ntmps65
      go_wp2_with fail
      go_ret
      unfold RStepR
      exact ⟨HRES.out.2, .inl ⟨⟨rfl, rfl⟩, rfl, HRES.out.1⟩⟩
    · have h0b : (lf == 0) = false := by simp [h0]
      have hw3 : IntKind.i64.wrap (lf - 1) = lf - 1 := IntWalk.i64_in _ (by omega)
      have HA := Lib.hid (h.cell (off := 3) (u := .int .i64 (lf - 1)) (N' := N) (fz' := true) (lf' := lf - 1) (out' := out) (fun v hr => heap_setCell_same w r 3 _ _ (.int .i64 (lf - 1)) hr))
      have HB := Lib.hid (HA.out.1.cell (off := 1) (u := .int .i64 (N + 1)) (N' := N + 1) (fz' := true) (lf' := lf - 1) (out' := out) (fun v hr => heap_setCell_same _ r 1 _ _ (.int .i64 (N + 1)) hr))
      clear h hr r0
      go_enter Tryz.func65, Tryz.ntmps65
      go_wp2_with fail
      go_ret
      unfold RStepR
      exact ⟨HA.out.2.trans HB.out.2, .inr ⟨fun q => h0 q.2, rfl, by rw [if_pos rfl]; exact HB.out.1⟩⟩
  | false =>
    have HB := Lib.hid (h.cell (off := 1) (u := .int .i64 (N + 1)) (N' := N + 1) (fz' := false) (lf' := lf) (out' := out) (fun v hr => heap_setCell_same _ r 1 _ _ (.int .i64 (N + 1)) hr))
    clear h hr r0
    go_enter Tryz.func65, Tryz.ntmps65
    go_wp2_with fail
    go_ret
    unfold RStepR
    exact ⟨HB.out.2, .inr ⟨(fun q => by cases q.1), rfl, by rw [if_neg (by simp)]; exact HB.out.1⟩⟩
/-- what it tells. -/
def RFuseR (r base : Nat) (R : List FileV) (N : Int) (fz : Bool) (lf z : Int) (out : Bool) (w : World) (e : Ending) (w' : World) : Prop := MovedR r base w w' ∧ ((z < 0 ∧ e = .returned (.int .i64 2) ∧ RefAt w' r base R N fz lf out) ∨ (0 ≤ z ∧ e = .returned (.int .i64 0) ∧ RefAt w' r base R N true z out))
set_option maxRecDepth 100000 in
theorem rFuse_any (r base : Nat) (R : List FileV) (N : Int) (fz : Bool) (lf z : Int) (out : Bool) (w : World) (h : RefAt w r base R N fz lf out) :
    Calls Tryz.prog 17 #[.pointer (some ⟨r, 0, none⟩), .int .i64 z] w fun e w' => RFuseR r base R N fz lf z out w e w' := by
  obtain ⟨v, hr⟩ := h.row
  have z2 : w.frozen? ⟨r, 2, none⟩ = false := frozen_of_row _ _ _ _ _ hr
  have hr2 := heap_setCell_same w r 2 _ _ (.bool true) hr
  have z3 : (w.setCell ⟨r, 2, none⟩ (.bool true)).frozen? ⟨r, 3, none⟩ = false := frozen_of_row _ _ _ _ _ hr2
  obtain ⟨r0, r1, r2, r3, r4⟩ := hr.cells
  have H := Lib.hid h
  have HA := Lib.hid (h.cell (off := 2) (u := .bool true) (N' := N) (fz' := true) (lf' := lf) (out' := out) (fun v hr => heap_setCell_same w r 2 _ _ (.bool true) hr))
  have HB := Lib.hid (HA.out.1.cell (off := 3) (u := .int .i64 z) (N' := N) (fz' := true) (lf' := z) (out' := out) (fun v hr => heap_setCell_same _ r 3 _ _ (.int .i64 z) hr))
  have z3b : w.frozen? ⟨r, 3, none⟩ = false := frozen_of_row _ _ _ _ _ hr
  clear h hr hr2 r0 r1 r4
  by_cases hz : z < 0
  · go_enter Tryz.func17, Tryz.ntmps17
    go_wp2_with fail
    go_ret
    unfold RFuseR
    exact ⟨MovedR.refl _ _ _, .inl ⟨hz, rfl, H.out⟩⟩
  · go_enter Tryz.func17, Tryz.ntmps17
    go_wp2_with fail
    go_ret
    unfold RFuseR
    exact ⟨HA.out.2.trans HB.out.2, .inr ⟨by omega, rfl, HB.out.1⟩⟩
/-- a file of the reference's disk, where it stands. -/
theorem RefAt.file {w : World} {r base : Nat} {R : List FileV} {N lf : Int} {fz out : Bool} (h : RefAt w r base R N fz lf out) : ∃ ao cap, RefRow w r (.slice ao R.length cap) N fz lf out ∧ R.length ≤ cap ∧ cap ≤ maxLen ∧ ∀ k, k < R.length → ∃ b off sa sn sc al m capl, ao = some ⟨b, off, none⟩ ∧
    w.cell? ⟨b, off + k * 3, none⟩ = some (.string (R.getD k f0).1) ∧ w.cell? ⟨b, off + k * 3 + 1, none⟩ = some (.slice sa sn sc) ∧ w.cell? ⟨b, off + k * 3 + 2, none⟩ = some (.slice al m capl) ∧ IsBytes w sa sn sc (R.getD k f0).2.1 ∧ IsRActs w al m capl (R.getD k f0).2.2 := by
  obtain ⟨_, v, T, hr, hown, hf⟩ := h
  obtain ⟨ao, cap, rfl, h3⟩ := hown.is3
  rw [hf.1] at hr h3
  refine ⟨ao, cap, hr, h3.2.1, h3.2.2.1, fun k hk => ?_⟩
  obtain ⟨b, off, e, g0, g1, g2⟩ := h3.cells hk
  obtain ⟨q0, ⟨a, n, c, e1, hb⟩, ⟨a2, n2, c2, e2, hd⟩⟩ := hf.2 k hk
  rw [q0] at g0
  rw [e1] at g1
  rw [e2] at g2
  exact ⟨b, off, a, n, c, a2, n2, c2, e, g0, g1, g2, hb.1, hd⟩
/-- what may be of a file of the reference's. -/
def FitF (x : FileV) : Prop := fitsD x.2.1 x.2.2 ∧ x.2.1.length + unitsD x.2.2 ≤ 4294967296
/-- what it tells. -/
def RLooseR (s : ByteArray) (R : List FileV) (w : World) (e : Ending) (w' : World) : Prop := ∃ z, AtR s R z ∧ e = .returned (.int .i64 (if 0 ≤ z then ((unitsD (R.getD z.toNat f0).2.2 : Nat) : Int) else 0)) ∧ Below w.heap.size w w'
set_option maxRecDepth 100000 in
theorem rLoose_any (s : ByteArray) (r base : Nat) (R : List FileV) (N : Int) (fz : Bool) (lf : Int) (out : Bool) (w : World) (h : RefAt w r base R N fz lf out) (hfit : ∀ k, k < R.length → FitF (R.getD k f0)) :
    Calls Tryz.prog 37 #[.pointer (some ⟨r, 0, none⟩), .string s] w fun e w' => RLooseR s R w e w' := by
  have HAt := Lib.hid (At_any s r base R N fz lf out w h)
  have HF := Lib.hid (And.intro h.file hfit)
  clear h hfit
  go_enter Tryz.func37, Tryz.ntmps37
  go_wp2_with fail
  refine HAt.out.mono ?_
  rintro e w' ⟨z, rfl, hz, rfl⟩
  have HZ := Lib.hid hz
  rcases hz with ⟨k, rfl, hk, _, _⟩ | ⟨rfl, _⟩
  · obtain ⟨⟨ao, cap, hr, hcap, hcm, hcell⟩, hfit⟩ := HF.out
    obtain ⟨b, off, sa, sn, sc, al, m, capl, rfl, g0, g1, g2, hb, hd⟩ := hcell k hk
    have hu := (hfit k hk).2
    obtain ⟨n, hn⟩ : ∃ n, n = R.length := ⟨_, rfl⟩
    rw [← hn] at hr hcap
    obtain ⟨x, hx⟩ : ∃ x, x = R.getD k f0 := ⟨_, rfl⟩
    rw [← hx] at g0 hb hd hu
    have r0 := hr.cells.1
    have hk0 : ¬ (k : Int) < 0 := by omega
    have hk1 : (0 : Int) ≤ (k : Int) := by omega
    have hk2 : (k : Int) < (n : Int) := by omega
    unfold maxLen at hcm
    obtain ⟨nm, hnm⟩ : ∃ nm, nm = x.1 := ⟨_, rfl⟩
    rw [← hnm] at g0
    have HU := Lib.hid (And.intro hd (And.intro hu hx))
    clear hr hcell hfit hb hd hu hn hx hnm
    go_wp2_with fail
    refine (units_any nm _ al m capl x.2.2 _ HU.out.1 (by have := HU.out.2.1; omega)).mono ?_
    rintro e w' ⟨rfl, hbl⟩
    have HB := Lib.hid hbl
    clear hbl
    go_wp2_with fail
    go_ret
    unfold RLooseR
    exact ⟨_, HZ.out, by rw [if_pos (by omega), HU.out.2.2]; rfl, HB.out⟩
  · go_wp2_with fail
    go_ret
    unfold RLooseR
    exact ⟨-1, HZ.out, rfl, Below.refl _ _⟩
/-- what it tells. -/
def RReadR (s : ByteArray) (R : List FileV) (out : Bool) (w : World) (e : Ending) (w' : World) : Prop := ∃ z, AtR s R z ∧ (∃ v c, e = .returned (.tuple #[v, .int .i64 c]) ∧ ((out = true ∧ v = .slice none 0 0 ∧ c = 10) ∨ (out = false ∧ z < 0 ∧ v = .slice none 0 0 ∧ c = 6) ∨ (out = false ∧ 0 ≤ z ∧ c = 0 ∧ OwnB w' w.heap.size v (runD (R.getD z.toNat f0).2.1 (R.getD z.toNat f0).2.2)))) ∧ Below w.heap.size w w'
set_option maxRecDepth 100000 in
theorem rRead_any (s : ByteArray) (r base : Nat) (R : List FileV) (N : Int) (fz : Bool) (lf : Int) (out : Bool) (w : World) (h : RefAt w r base R N fz lf out) (hfit : ∀ k, k < R.length → FitF (R.getD k f0)) :
    Calls Tryz.prog 34 #[.pointer (some ⟨r, 0, none⟩), .string s] w fun e w' => RReadR s R out w e w' := by
  have HAt := Lib.hid (At_any s r base R N fz lf out w h)
  obtain ⟨v, hrow⟩ := h.row
  have r4 := hrow.cells.2.2.2.2
  have HF := Lib.hid (And.intro h.file hfit)
  clear h hfit hrow
  go_enter Tryz.func34, Tryz.ntmps34
  go_wp2_with fail
  refine HAt.out.mono ?_
  rintro e w' ⟨z, rfl, hz, rfl⟩
  have HZ := Lib.hid hz
  cases out with
  | true =>
    go_wp2_with fail
    go_ret2
    unfold RReadR
    exact ⟨z, HZ.out, ⟨_, _, rfl, .inl ⟨rfl, rfl, rfl⟩⟩, Below.refl _ _⟩
  | false =>
    rcases hz with ⟨k, rfl, hk, _, _⟩ | ⟨rfl, _⟩
    · obtain ⟨⟨ao, cap, hr, hcap, hcm, hcell⟩, hfit⟩ := HF.out
      obtain ⟨b, off, sa, sn, sc, al, m, capl, rfl, g0, g1, g2, hb, hd⟩ := hcell k hk
      have hu := hfit k hk
      obtain ⟨n, hn⟩ : ∃ n, n = R.length := ⟨_, rfl⟩
      rw [← hn] at hr hcap
      obtain ⟨x, hx⟩ : ∃ x, x = R.getD k f0 := ⟨_, rfl⟩
      rw [← hx] at g0 hb hd hu
      have r0 := hr.cells.1
      have hk0 : ¬ (k : Int) < 0 := by omega
      have hk1 : (0 : Int) ≤ (k : Int) := by omega
      have hk2 : (k : Int) < (n : Int) := by omega
      unfold maxLen at hcm
      obtain ⟨nm, hnm⟩ : ∃ nm, nm = x.1 := ⟨_, rfl⟩
      rw [← hnm] at g0
      have HU := Lib.hid (And.intro hd (And.intro hu (And.intro hx hb)))
      clear hr hcell hfit hb hd hu hn hx hnm
      go_wp2_with fail
      refine (Bytes_any nm sa sn sc x.2.1 al m capl x.2.2 _ HU.out.2.2.2 HU.out.1 HU.out.2.1.1 HU.out.2.1.2).mono ?_
      rintro e w2 ⟨v2, rfl, hown, hbl⟩
      have HB := Lib.hid (And.intro hown hbl)
      clear hown hbl
      go_wp2_with fail
      go_ret2
      unfold RReadR
      refine ⟨_, HZ.out, ⟨_, _, rfl, .inr (.inr ⟨rfl, by omega, rfl, ?_⟩)⟩, HB.out.2⟩
      have := HB.out.1
      rw [HU.out.2.2.1] at this
      exact this
    · go_wp2_with fail
      go_ret2
      unfold RReadR
      exact ⟨-1, HZ.out, ⟨_, _, rfl, .inr (.inl ⟨rfl, by omega, rfl, rfl⟩)⟩, Below.refl _ _⟩
end Go.Proofs.YtjkkfjmloleedaaGreat
