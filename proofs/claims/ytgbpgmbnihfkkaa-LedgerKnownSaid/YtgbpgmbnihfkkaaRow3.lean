/- disk: what the calls do to a disk with all its files -/
import Derived.Test.YtgbpgmbnihfkkaaCrash
namespace Go.Proofs.Ytgbpgmbnihfkkaa
open Go.RowKit
set_option linter.unusedSectionVars false
variable [Zone]
variable {nm : ByteArray}
theorem New_G (w : World) (C : Cont) (hz : ZW w) : Calls Try.prog 4 #[] w fun e w' => ∃ d mb, e = .returned (.pointer (some ⟨d, 0, none⟩)) ∧ w.heap.size ≤ mb ∧ mb < d ∧ DiskG w' 0 (-1) false d mb w.heap.size [] C ∧ Below w.heap.size w w' := by
  refine (New_any w).mono ?_
  rintro e w' ⟨d, mb, rfl, h1, h2, h3, h4, h5⟩
  exact ⟨d, mb, rfl, h1, h2, ⟨⟨by omega, h2, h3, 0, ⟨by simp, List.Pairwise.nil, List.Pairwise.nil, by simp, by simp⟩, h4⟩, h1, by simp, by simp, by simp, hz.mono h5.size⟩, h5⟩
theorem Append_G_old (d mb base f : Nat) (M : List Ent) (C : Cont) (st fu : Int) (ao : Option Addr) (n cap : Nat) (B : List UInt8) (w : World) (hb : base ≤ w.heap.size) (hnf : nameP nm.data.toList = true) (h : DiskG w st fu false d mb base M C) (hfo : fileOf nm M = some f) (hB : IsBytes w ao n cap B)
    (hn : n + (runD (C f).1 (C f).2).length ≤ 1048576) (hDl : (C f).2.length ≤ 1000000) (hsm : (C f).1.length + unitsD (C f).2 + n ≤ 4294967296) :
    Calls Try.prog 10 #[.pointer (some ⟨d, 0, none⟩), .string nm, .slice ao n cap] w fun e w' => ∃ z, e = .returned (.int .i64 z) ∧ Stepped fu z (DiskG w' st fu true d mb base M C) (DiskG w' (wrap64 (st + 1)) (dec fu) false d mb base M (setC C f ((C f).1, laid (C f).2 n B))) ∧ Kept d mb base w w' := by
  obtain ⟨b, hfm⟩ := fileOf_mem hfo
  refine (Append_log base d mb f M st fu (C f).1 (C f).2 ao n cap B w hb hnf h.dm hfo (h.file hfo).2 hB h.zone (by rw [allB_run]; exact hn) hDl (by rw [List.map_append, List.sum_append]; have := hB.1; simp only [List.map_cons, List.map_nil, List.sum_cons, List.sum_nil, Deed.units, sum_units]; omega)).mono ?_
  rintro e w' ⟨z, rfl, hs, hm⟩
  refine ⟨z, rfl, ?_⟩
  rcases hs with ⟨q1, q2, q3, q4⟩ | ⟨q1, q2, q3, q4⟩
  · obtain ⟨r1, r2⟩ := h.moved hfm hb hm q3 q4
    rw [show setC C f ((C f).1, (C f).2) = C from setC_same C f] at r1
    exact ⟨.inl ⟨q1, q2, r1⟩, r2⟩
  · obtain ⟨r1, r2⟩ := h.moved hfm hb hm q3 q4
    exact ⟨.inr ⟨q1, q2, r1⟩, r2⟩
theorem Append_G_new (d mb base : Nat) (M : List Ent) (C : Cont) (st fu : Int) (ao : Option Addr) (n cap : Nat) (B : List UInt8) (w : World) (hb : base ≤ w.heap.size) (hnf : nameP nm.data.toList = true) (h : DiskG w st fu false d mb base M C) (hfo : fileOf nm M = none) (hml : M.length < 16) (hB : IsBytes w ao n cap B)
    (hn : n ≤ 1048576) :
    Calls Try.prog 10 #[.pointer (some ⟨d, 0, none⟩), .string nm, .slice ao n cap] w fun e w' => ∃ z, e = .returned (.int .i64 z) ∧ Stepped fu z (DiskG w' st fu true d mb base M C) (∃ f c, w.heap.size ≤ f ∧ DiskG w' (wrap64 (st + 1)) (dec fu) false d mb base (M ++ [(nm, f, c)]) (setC C f ([], laid [] n B))) ∧ Kept d mb base w w' := by
  refine (Append_new base d mb M st fu ao n cap B w hb hnf h.dm hfo hml hB h.zone hn).mono ?_
  rintro e w' ⟨z, rfl, f, hf, hs, hm⟩
  refine ⟨z, rfl, ?_⟩
  rcases hs with ⟨q1, q2, q3⟩ | ⟨q1, q2, c, q3, q4⟩
  · obtain ⟨r1, r2⟩ := h.stay hb hm hf q3
    exact ⟨.inl ⟨q1, q2, r1⟩, r2⟩
  · obtain ⟨r1, r2⟩ := h.push hb hm hf q3 q4
    exact ⟨.inr ⟨q1, q2, f, c, hf, r1⟩, r2⟩
theorem Sync_G (d mb base f : Nat) (M : List Ent) (C : Cont) (st fu : Int) (w : World) (hb : base ≤ w.heap.size) (h : DiskG w st fu false d mb base M C) (hfo : fileOf nm M = some f) :
    Calls Try.prog 18 #[.pointer (some ⟨d, 0, none⟩), .string nm] w fun e w' => ∃ z, e = .returned (.int .i64 z) ∧ Stepped fu z (DiskG w' st fu true d mb base M C) (DiskG w' (wrap64 (st + 1)) (dec fu) false d mb base M (setC C f (runD (C f).1 (C f).2, []))) ∧ Kept d mb base w w' := by
  obtain ⟨b, hfm⟩ := fileOf_mem hfo
  refine (Sync_any base d mb f M st fu (C f).1 (C f).2 w h.dm hfo (h.file hfo).2 h.zone).mono ?_
  rintro e w' ⟨z, rfl, hs, hm⟩
  refine ⟨z, rfl, ?_⟩
  rcases hs with ⟨q1, q2, q3, q4⟩ | ⟨q1, q2, q3, q4⟩
  · obtain ⟨r1, r2⟩ := h.moved hfm hb hm q3 q4
    rw [show setC C f ((C f).1, (C f).2) = C from setC_same C f] at r1
    exact ⟨.inl ⟨q1, q2, r1⟩, r2⟩
  · obtain ⟨r1, r2⟩ := h.moved hfm hb hm q3 q4
    rw [allB_run] at r1
    exact ⟨.inr ⟨q1, q2, r1⟩, r2⟩
theorem Cut_G (d mb base f z : Nat) (M : List Ent) (C : Cont) (st fu : Int) (w : World) (hb : base ≤ w.heap.size) (h : DiskG w st fu false d mb base M C) (hfo : fileOf nm M = some f)
    (hz : z ≤ (runD (C f).1 (C f).2).length) (hDl : (C f).2.length ≤ 1000000) (hsm : (C f).1.length + unitsD (C f).2 + 1 ≤ 4294967296) :
    Calls Try.prog 32 #[.pointer (some ⟨d, 0, none⟩), .string nm, .int .i64 (z : Int)] w fun e w' => ∃ y, e = .returned (.int .i64 y) ∧ Stepped fu y (DiskG w' st fu true d mb base M C) (DiskG w' (wrap64 (st + 1)) (dec fu) false d mb base M (setC C f ((C f).1, (C f).2 ++ [.cut z]))) ∧ Kept d mb base w w' := by
  obtain ⟨b, hfm⟩ := fileOf_mem hfo
  have hf := (h.file hfo).2
  refine (Cut_any base d mb f z M st fu (C f).1 (C f).2 w hb h.dm hfo hf (by rw [allB_run]; exact hz) hDl (fits_cut _ _ _ hf.2.1 hz) (by rw [List.map_append, List.sum_append]; simp only [List.map_cons, List.map_nil, List.sum_cons, List.sum_nil, Deed.units, sum_units]; omega)).mono ?_
  rintro e w' ⟨y, rfl, hs, hm⟩
  refine ⟨y, rfl, ?_⟩
  rcases hs with ⟨q1, q2, q3, q4⟩ | ⟨q1, q2, q3, q4⟩
  · obtain ⟨r1, r2⟩ := h.moved hfm hb hm q3 q4
    rw [show setC C f ((C f).1, (C f).2) = C from setC_same C f] at r1
    exact ⟨.inl ⟨q1, q2, r1⟩, r2⟩
  · obtain ⟨r1, r2⟩ := h.moved hfm hb hm q3 q4
    exact ⟨.inr ⟨q1, q2, r1⟩, r2⟩
theorem DiskM.map {w : World} {st fu : Int} {out : Bool} {d mb : Nat} {M : List Ent} (h : DiskM w st fu out d mb M) : ∃ c, w.heap[mb]? = some (.map (ents M) c) := ⟨_, h.2.2.2.choose_spec.2⟩
theorem Read_G (d mb base f : Nat) (M : List Ent) (C : Cont) (st fu : Int) (w : World) (h : DiskG w st fu false d mb base M C) (hfo : fileOf nm M = some f) :
    Calls Try.prog 12 #[.pointer (some ⟨d, 0, none⟩), .string nm] w fun e w' => ∃ v, e = .returned (.tuple #[v, .int .i64 0]) ∧ OwnB w' w.heap.size v (runD (C f).1 (C f).2) ∧ Below w.heap.size w w' := by
  obtain ⟨c, hm⟩ := h.dm.map
  refine (Read_log d mb c f M st fu (C f).1 (C f).2 w h.dm.2.2.1 hm hfo (h.file hfo).2.at).mono ?_
  rintro e w' ⟨v, rfl, h1, h2⟩
  rw [allB_run] at h1
  exact ⟨v, rfl, h1, h2⟩
theorem Fuse_G (d mb base : Nat) (M : List Ent) (C : Cont) (z st fu : Int) (out : Bool) (w : World) (hb : base ≤ w.heap.size) (hz1 : z ≤ 9223372036854775807) (h : DiskG w st fu out d mb base M C) :
    Calls Try.prog 7 #[.pointer (some ⟨d, 0, none⟩), .int .i64 z] w fun e w' => ((z < 0 ∧ e = .returned (.int .i64 2) ∧ DiskG w' st fu out d mb base M C) ∨ (0 ≤ z ∧ e = .returned (.int .i64 0) ∧ DiskG w' st z out d mb base M C)) ∧ Kept d mb base w w' := by
  refine (Fuse_any d mb M z st fu out w hz1 h.dm).mono ?_
  rintro e w' (⟨h1, rfl, rfl⟩ | ⟨h1, rfl, h2, rfl⟩)
  · exact ⟨.inl ⟨h1, rfl, h⟩, .refl _ _ _ _⟩
  · obtain ⟨r1, r2⟩ := h.same (w' := w.setCell ⟨d, 2, none⟩ (.int .i64 z)) hb ⟨rfl, rfl, rfl⟩ (by simp) (fun j _ hj => Below.heap_setCell _ _ _ _ hj) h2.2.2.1 h2.1
    exact ⟨.inr ⟨h1, rfl, r1⟩, r2⟩
/-- bytes that stand in the text. -/
theorem IsBytes.lit (w : World) (l : List UInt8) (t : TypeId) (hl : l.length ≤ 1000000) : IsBytes (w.alloc (.cells (u8s l).toArray t)) (some ⟨w.heap.size, 0, none⟩) l.length l.length l := by
  refine ⟨rfl, Nat.le_refl _, by unfold maxLen; omega, fun _ => ⟨w.heap.size, 0, rfl, fun i hi => ?_⟩, fun e => by cases e⟩
  simp only [World.cell?, heap_alloc_new]
  rw [List.getElem?_toArray]
  simp only [u8s, Nat.zero_add, List.getElem?_map, List.getElem?_eq_getElem hi]
  simp [u8, List.getD_eq_getElem?_getD, List.getElem?_eq_getElem hi]
end Go.Proofs.Ytgbpgmbnihfkkaa

/- disk: of one file -/
namespace Go.Proofs.Ytgbpgmbnihfkkaa
open Go.RowKit
set_option linter.unusedSectionVars false
variable [Zone]
theorem Stepped.done {fu z : Int} {O P : Prop} (h : Stepped fu z O P) (hf : fu ≠ 0) : z = 0 ∧ P := by
  rcases h with ⟨h1, _⟩ | ⟨_, h2, h3⟩
  · exact absurd h1 hf
  · exact ⟨h2, h3⟩
theorem Stepped.out {z : Int} {O P : Prop} (h : Stepped 0 z O P) : z = 10 ∧ O := by
  rcases h with ⟨_, h2, h3⟩ | ⟨h1, _⟩
  · exact ⟨h2, h3⟩
  · exact absurd rfl h1
variable {nm : ByteArray}
end Go.Proofs.Ytgbpgmbnihfkkaa

/- layer 27's statements: awake -/
namespace Go.Proofs.Ytgbpgmbnihfkkaa
open Go.RowKit
/-- no such block. -/
instance zone0 : Zone := ⟨fun _ => False⟩
theorem ZW0 (w : World) : ZW w := fun _ h => h.elim
end Go.Proofs.Ytgbpgmbnihfkkaa

/- apportionkit.SameTexts; disk: what is refused; Steps -/
namespace Go.Proofs.Ytgbpgmbnihfkkaa
open Go.RowKit Go.Sort
/-- a slice of strings. -/
def IsTexts (w : World) (ao : Option Addr) (n cap : Nat) (L : List ByteArray) : Prop :=
  L.length = n ∧ n ≤ cap ∧ cap ≤ maxLen ∧ (0 < n → ∃ b off, ao = some ⟨b, off, none⟩ ∧ ∀ i, i < n → w.cell? ⟨b, off + i, none⟩ = some (.string (L.getD i ByteArray.empty)))
theorem IsTexts.drew {w : World} {ao : Option Addr} {n cap : Nat} {L : List ByteArray} (h : IsTexts w ao n cap L) : IsTexts w.drew ao n cap L := h
theorem IsTexts.later {w w' : World} {ao : Option Addr} {n cap : Nat} {L : List ByteArray} (h : IsTexts w ao n cap L) (hb : Below w.heap.size w w') : IsTexts w' ao n cap L := by
  obtain ⟨h1, h2, h3, h4⟩ := h
  refine ⟨h1, h2, h3, fun hn => ?_⟩
  obtain ⟨b, off, e, hc⟩ := h4 hn
  exact ⟨b, off, e, fun i hi => (hb.cell (block_lt_of_cell (hc i hi))).trans (hc i hi)⟩
theorem texts_eq {L M : List ByteArray} (h : L.length = M.length) (hi : ∀ i, i < L.length → L.getD i ByteArray.empty = M.getD i ByteArray.empty) : L = M := by
  apply List.ext_getElem?
  intro i
  by_cases h1 : i < L.length
  · have := hi i h1
    rw [List.getD_eq_getElem?_getD, List.getD_eq_getElem?_getD, List.getElem?_eq_getElem h1, List.getElem?_eq_getElem (by omega)] at this
    rw [List.getElem?_eq_getElem h1, List.getElem?_eq_getElem (by omega)]
    simpa using this
  · rw [List.getElem?_eq_none (by omega), List.getElem?_eq_none (by omega)]
variable {nm : ByteArray}
set_option maxRecDepth 100000 in
theorem Cut_none (d mb : Nat) (M : List Ent) (z st fu : Int) (w : World) (h : DiskM w st fu false d mb M) (hfo : fileOf nm M = none) :
    Calls Try.prog 32 #[.pointer (some ⟨d, 0, none⟩), .string nm, .int .i64 z] w fun e w' => e = .returned (.int .i64 6) ∧ Below w.heap.size w w' := by
  obtain ⟨c, hm⟩ := h.map
  have HO := Lib.hid (fun (w' : World) (hb : Below w.heap.size w w') => open_none d mb c M st fu w' ((hb.block _ h.2.2.1.lt).trans h.2.2.1) ((hb.block _ (heap_lt hm)).trans hm) hfo)
  clear h hm hfo
  go_enter Try.func32, Try.ntmps32
  go_wp2_with fail
  have hb1 : Below w.heap.size w (w.alloc (.cells #[.int .i64 z] 3)) := (Below.refl _ _).alloc (Nat.le_refl _) _
  have hs : w.heap.size ≤ (w.alloc (.cells #[.int .i64 z] 3)).heap.size := by simp
  have HB := Lib.hid (And.intro hb1 hs)
  clear hb1 hs
  refine (HO.out _ HB.out.1).mono ?_
  rintro e w' ⟨rfl, rfl⟩
  go_wp2_with fail
  go_ret
  exact ⟨rfl, by first | exact HB.out.1 | exact HB.out.1.alloc HB.out.2 _⟩
set_option maxRecDepth 100000 in
/-- a name that may not be. -/
theorem Append_bad (d mb : Nat) (M : List Ent) (st fu : Int) (ao : Option Addr) (n cap : Nat) (w : World) (hnm : nm.size ≤ 1099511627776) (hnf : nameP nm.data.toList = false) (h : DiskM w st fu false d mb M) :
    Calls Try.prog 10 #[.pointer (some ⟨d, 0, none⟩), .string nm, .slice ao n cap] w fun e w' => e = .returned (.int .i64 2) ∧ Below w.heap.size w w' := by
  obtain ⟨p, hp⟩ : ∃ p, fileOf nm M = p := ⟨_, rfl⟩
  obtain ⟨c, hm⟩ := h.map
  have hd := h.2.2.1
  have HNM := Lib.hid (fun w' => named_any nm w' hnm)
  have HNF := Lib.hid hnf
  have HD := Lib.hid hd
  have HM := Lib.hid hm
  have HP := Lib.hid hp
  clear h hd hm hnf hnm hp
  go_enter Try.func10, Try.ntmps10
  go_wp2_with fail
  generalize hw1 : ((w.alloc (.cells #[.pointer (some ⟨d, 0, none⟩)] 22)).alloc (.cells #[.string nm] 9)).alloc (.cells #[.slice ao n cap] 30) = w1
  obtain ⟨b0, b1, b2, hB1, hS1⟩ := app_boxes d nm _ w w1 hw1
  clear hw1
  obtain ⟨N, hN⟩ : ∃ N, N = w.heap.size := ⟨_, rfl⟩
  rw [← hN] at b0 b1 b2 hS1 ⊢
  have HN := Lib.hid hN
  have HD1 : Hid (DiskRow w1 d mb st fu false) := Lib.hid ((hB1.block _ HD.out.lt).trans HD.out)
  have HM1 : Hid (w1.heap[mb]? = some (.map (ents M) c)) := Lib.hid ((hB1.block _ (heap_lt HM.out)).trans HM.out)
  have h1 := HD1.out.cells.1
  have c0 : w1.cell? ⟨N, 0, none⟩ = some (.pointer (some ⟨d, 0, none⟩)) := cell_of_row _ _ _ _ _ _ b0
  have c1 : w1.cell? ⟨N + 1, 0, none⟩ = some (.string nm) := cell_of_row _ _ _ _ _ _ b1
  have hlk0 : (Instr.lookup 40 (.map (some mb)) (.string nm) false).run Try.prog (w1.alloc (.cells #[.pointer none] 55)).drew = .ok (.pointer (p.map fun f => ⟨f, 0, none⟩)) (w1.alloc (.cells #[.pointer none] 55)).drew := by
    rw [← HP.out]
    exact look_ents nm M _ mb c ((Below.heap_alloc w1 (.cells #[.pointer none] 55) mb (heap_lt HM1.out)).trans HM1.out)
  have hlk1 : (Instr.lookup 40 (.map (some mb)) (.string nm) false).run Try.prog w1.drew = .ok (.pointer (p.map fun f => ⟨f, 0, none⟩)) w1.drew := by
    rw [← HP.out]
    exact look_ents nm M w1.drew mb c HM1.out
  have h1a : (w1.alloc (.cells #[.pointer none] 55)).cell? ⟨d, 0, none⟩ = some (.map (some mb)) := (World.cell?_of_block (w := w1) (Below.heap_alloc w1 _ d HD1.out.lt)).trans h1
  generalize (p.map fun f => (⟨f, 0, none⟩ : Addr)) = pv at hlk0 hlk1
  have HBL := Lib.hid (And.intro hB1 (show w.heap.size ≤ w1.heap.size by omega))
  clear b0 b1 b2 hB1 hN
  refine (down_any d mb st fu w1 HD1.out).mono ?_
  rintro e w' ⟨rfl, rfl⟩
  go_wp2_with fail
  go_region
  all_goals
    go_wp2_with fail
    refine (HNM.out _).mono ?_
    rintro e w' ⟨rfl, rfl⟩
    rw [HNF.out]
    go_wp2_with fail
    go_ret
    exact ⟨rfl, HN.out.symm ▸ (HBL.out.1.alloc HBL.out.2 _).drew⟩
end Go.Proofs.Ytgbpgmbnihfkkaa

/- rows of structs of three cells: slices of them, rows of one's own, append, stores -/
namespace Go.Proofs.Ytgbpgmbnihfkkaa
open Go.RowKit
/-- three cells. -/
abbrev V3 := Value × Value × Value
def v30 : V3 := (.nilIface, .nilIface, .nilIface)
def flat3 (T : List V3) : List Value := T.flatMap fun t => [t.1, t.2.1, t.2.2]
theorem flat3_cons (t : V3) (T : List V3) : flat3 (t :: T) = t.1 :: t.2.1 :: t.2.2 :: flat3 T := rfl
theorem flat3_append (T U : List V3) : flat3 (T ++ U) = flat3 T ++ flat3 U := by simp [flat3]
theorem flat3_length : ∀ T : List V3, (flat3 T).length = T.length * 3
  | [] => rfl
  | t :: T => by rw [flat3_cons]; simp only [List.length_cons, flat3_length T]; omega
theorem flat3_get : ∀ (T : List V3) (i : Nat), i < T.length → (flat3 T)[i * 3]? = some (T.getD i v30).1 ∧ (flat3 T)[i * 3 + 1]? = some (T.getD i v30).2.1 ∧ (flat3 T)[i * 3 + 2]? = some (T.getD i v30).2.2
  | t :: T, 0, _ => ⟨rfl, rfl, rfl⟩
  | t :: T, i + 1, h => by
    have ih := flat3_get T i (by simpa using h)
    rw [flat3_cons, show (i + 1) * 3 = i * 3 + 1 + 1 + 1 by omega, show i * 3 + 1 + 1 + 1 + 1 = (i * 3 + 1) + 1 + 1 + 1 by omega, show i * 3 + 1 + 1 + 1 + 2 = (i * 3 + 2) + 1 + 1 + 1 by omega]
    simp only [List.getElem?_cons_succ, List.getD_cons_succ]
    exact ih
/-- neither a byte nor a deed. -/
def PlainV (u : Value) : Prop := plainV u = true
/-- each is one cell, and no byte. -/
def Ok3 (T : List V3) : Prop := ∀ u ∈ flat3 T, u.oneCell' = true ∧ PlainV u
theorem Ok3.nil : Ok3 [] := fun _ h => by cases h
theorem Ok3.append {T U : List V3} (h : Ok3 T) (k : Ok3 U) : Ok3 (T ++ U) := by
  intro u hu
  rw [flat3_append] at hu
  rcases List.mem_append.1 hu with r | r
  · exact h u r
  · exact k u r
/-- a slice of such structs. -/
def Is3 (w : World) (ty : TypeId) (ao : Option Addr) (n cap : Nat) (T : List V3) : Prop :=
  T.length = n ∧ n ≤ cap ∧ cap ≤ maxLen ∧ (ao = none → n = 0 ∧ cap = 0) ∧ Ok3 T ∧ (0 < n → ∃ (b off : Nat) (c : Array Value) (fr : Nat × Nat), ao = some ⟨b, off, none⟩ ∧ w.heap[b]? = some (Obj.cells c ty fr) ∧ ∀ j u, (flat3 T)[j]? = some u → c[off + j]? = some u)
theorem Is3.nil (w : World) (ty : TypeId) : Is3 w ty none 0 0 [] := ⟨rfl, Nat.le_refl _, by unfold maxLen; omega, fun _ => ⟨rfl, rfl⟩, Ok3.nil, fun h => absurd h (by omega)⟩
theorem Is3.move {w w' : World} {ty : TypeId} {ao : Option Addr} {n cap : Nat} {T : List V3} (h : Is3 w ty ao n cap T) (hm : ∀ (j : Nat) (c : Array Value) (fr : Nat × Nat), w.heap[j]? = some (Obj.cells c ty fr) → w'.heap[j]? = w.heap[j]?) : Is3 w' ty ao n cap T := by
  obtain ⟨h1, h2, h3, h4, h5, h6⟩ := h
  refine ⟨h1, h2, h3, h4, h5, fun hn => ?_⟩
  obtain ⟨b, off, c, fr, e, hb, hc⟩ := h6 hn
  exact ⟨b, off, c, fr, e, (hm b c fr hb).trans hb, hc⟩
theorem Is3.later {w w' : World} {ty : TypeId} {ao : Option Addr} {n cap : Nat} {T : List V3} (h : Is3 w ty ao n cap T) (hb : Below w.heap.size w w') : Is3 w' ty ao n cap T := h.move fun j _ _ hj => hb.block j (heap_lt hj)
theorem Is3.cells {w : World} {ty : TypeId} {ao : Option Addr} {n cap : Nat} {T : List V3} (h : Is3 w ty ao n cap T) {i : Nat} (hi : i < n) : ∃ b off, ao = some ⟨b, off, none⟩ ∧ w.cell? ⟨b, off + i * 3, none⟩ = some (T.getD i v30).1 ∧ w.cell? ⟨b, off + i * 3 + 1, none⟩ = some (T.getD i v30).2.1 ∧ w.cell? ⟨b, off + i * 3 + 2, none⟩ = some (T.getD i v30).2.2 := by
  obtain ⟨b, off, c, fr, e, hb, hc⟩ := h.2.2.2.2.2 (by omega)
  obtain ⟨g0, g1, g2⟩ := flat3_get T i (by rw [h.1]; exact hi)
  refine ⟨b, off, e, ?_, ?_, ?_⟩
  · simp only [World.cell?, hb]; exact hc _ _ g0
  · simp only [World.cell?, hb]; exact hc (i * 3 + 1) _ g1
  · simp only [World.cell?, hb]; exact hc (i * 3 + 2) _ g2
theorem flat3_take (T : List V3) (k : Nat) : flat3 (T.take k) = (flat3 T).take (k * 3) := by
  induction T generalizing k with
  | nil => simp [flat3]
  | cons t T ih =>
    cases k with
    | zero => simp [flat3]
    | succ k =>
      rw [List.take_succ_cons, flat3_cons, flat3_cons, ih, show (k + 1) * 3 = k * 3 + 1 + 1 + 1 by omega]
      simp
theorem flat3_drop (T : List V3) (k : Nat) : flat3 (T.drop k) = (flat3 T).drop (k * 3) := by
  induction T generalizing k with
  | nil => simp [flat3]
  | cons t T ih =>
    cases k with
    | zero => simp
    | succ k =>
      rw [List.drop_succ_cons, flat3_cons, ih, show (k + 1) * 3 = k * 3 + 1 + 1 + 1 by omega]
      simp
/-- a row of one's own. -/
def Own3 (w : World) (base : Nat) (ty : TypeId) (v : Value) (T : List V3) : Prop := w.ownsRow base ty 3 v T.length (flat3 T) ∧ AllCells w v PlainV ∧ Ok3 T
theorem Own3.nil (w : World) (base : Nat) (ty : TypeId) : Own3 w base ty (.slice none 0 0) [] := ⟨World.ownsRow_nil _ _ _ _, fun g c t f hg => by simp [Value.ownBlock] at hg, Ok3.nil⟩
theorem Own3.move {w w' : World} {base : Nat} {ty : TypeId} {v : Value} {T : List V3} (h : Own3 w base ty v T) (hb : ∀ g, v.ownBlock = some g → w'.heap[g]? = w.heap[g]?) : Own3 w' base ty v T := ⟨ownsRow_move h.1 hb, h.2.1.move hb, h.2.2⟩
theorem Own3.later {w w' : World} {base : Nat} {ty : TypeId} {v : Value} {T : List V3} (h : Own3 w base ty v T) (hb : Below w.heap.size w w') : Own3 w' base ty v T := h.move fun g hg => hb.block g (h.1.lt g hg).2
theorem Own3.base {w : World} {base base' : Nat} {ty : TypeId} {v : Value} {T : List V3} (h : Own3 w base ty v T) (hb : base' ≤ base) : Own3 w base' ty v T := ⟨ownsRow_base h.1 hb, h.2⟩
theorem Own3.is3 {w : World} {base : Nat} {ty : TypeId} {v : Value} {T : List V3} (h : Own3 w base ty v T) : ∃ ao cap, v = .slice ao T.length cap ∧ Is3 w ty ao T.length cap T := by
  rcases h.1.2 with ⟨rfl, h0⟩ | ⟨g, cap, cur, rfl, hb, hg, hn, hm, hs, ht⟩
  · have : T = [] := List.eq_nil_of_length_eq_zero h0
    subst this
    exact ⟨none, 0, rfl, Is3.nil w ty⟩
  · refine ⟨_, cap, rfl, rfl, hn, hm, (fun h => by cases h), h.2.2, fun _ => ⟨g, 0, cur, _, rfl, hg, fun j u hu => ?_⟩⟩
    have hc := h.1.cells (g := g) rfl j u hu
    have : (⟨g, 0, none⟩ : Addr).add j = ⟨g, 0 + j, none⟩ := by unfold Addr.add; split <;> simp_all
    rw [this] at hc
    simp only [World.cell?, hg] at hc
    exact hc
/-- what the program says of such a type, and of slices of it. -/
structure Ty3 (ty sl : TypeId) : Prop where
  under : Try.prog.underlying sl = some (.slice ty)
  info : ∃ z b, (Try.prog.info? ty).map (fun i => (i.zero, i.size, i.bytes)) = some (some z, 3, b) ∧ b ≤ 1000 ∧ z.cells.size = 3 ∧ ∀ u, u ∈ z.cells → PlainV u
set_option maxRecDepth 100000 in
theorem run_append3 {w : World} {et sl : TypeId} (hT : Ty3 et sl) (ty base : Nat) (v : Value) (T : List V3) (hown : Own3 w base et v T) (ao : Option Addr) (m c : Nat) (U : List V3) (hsrc : Is3 w et ao m c U) (hnm : T.length + m ≤ 100000000) (hbase : base ≤ w.heap.size) :
    ∃ v' w', (Builtin.append_ #[sl, sl] ty #[v, .slice ao m c]).run Try.prog w = .ok v' w' ∧ Own3 w' base et v' (T ++ U) ∧ w.grownBy w' v.ownBlock ∧ (∀ g, v'.ownBlock = some g → v.ownBlock = some g ∨ w.heap.size ≤ g) := by
  obtain ⟨z, b, hinf, hb, hzs, hzu⟩ := hT.info
  obtain ⟨i0, hi, hz0, hz1, hz2⟩ := info_parts hinf
  have hl := hsrc.1
  cases ao with
  | none =>
    obtain ⟨rfl, rfl⟩ := hsrc.2.2.2.1 rfl
    obtain rfl : U = [] := List.eq_nil_of_length_eq_zero hl
    exact ⟨v, w, run_append_owned_none (P := Try.prog) (w := w) base _ ty _ i0 3 hT.under hi v _ _ hown.1, by rw [List.append_nil]; exact hown, ⟨rfl, rfl, rfl, Nat.le_refl _, fun _ _ _ => rfl⟩, fun g hg => .inl hg⟩
  | some ad =>
    have hcells : ∀ j u, (flat3 U)[j]? = some u → w.cell? (ad.add j) = some u := by
      intro j u hu
      have hj : 0 < m := by
        rcases Nat.eq_zero_or_pos m with h0 | h0
        · rw [h0] at hl
          rw [List.eq_nil_of_length_eq_zero hl] at hu
          simp [flat3] at hu
        · exact h0
      obtain ⟨b', off, c', fr, e, hb', hc⟩ := hsrc.2.2.2.2.2 hj
      injection e with e
      subst e
      have : (⟨b', off, none⟩ : Addr).add j = ⟨b', off + j, none⟩ := by unfold Addr.add; split <;> simp_all
      rw [this]
      simp only [World.cell?, hb']
      exact hc j u hu
    obtain ⟨v', w', hr, h2, h3, h4, _, h6⟩ := run_append_all (P := Try.prog) w base sl ty et i0 z 3 b hT.under hi hz0 hz1 hz2 hzs (by omega) v _ _ hown.1 ad m c (flat3 U) (by rw [flat3_length, hl]) hcells (fun u hu => (hsrc.2.2.2.2.1 u hu).1)
      (Nat.le_trans hnm (by unfold maxLen; omega)) (by
        have : (T.length + m) * b ≤ 100000000 * 1000 := Nat.mul_le_mul hnm hb
        omega) hbase PlainV hzu (fun u hu => (hsrc.2.2.2.2.1 u hu).2) hown.2.1
    refine ⟨v', w', hr, ⟨?_, h4, hown.2.2.append hsrc.2.2.2.2.1⟩, h3, fun g hg => (h6 g hg).imp id (fun e => Nat.le_of_eq e.symm)⟩
    rw [flat3_append, List.length_append, hl]; exact h2
theorem wpList_append3 {w : World} {et sl : TypeId} (hT : Ty3 et sl) {ops : Array Oper} {rest : List Oper} {o : Oper} {a : Act} {Q : Exit → Act → World → Prop} (hgd : o.guard = none) (s x : Operand)
    (ho : o.op = .call { callee := .builtin .append, args := #[s, x], argTypes := #[sl, sl] })
    (base : Nat) (v : Value) (T : List V3) (hs : a.eval s = v) (hown : Own3 w base et v T)
    (ao : Option Addr) (m c : Nat) (U : List V3) (hx : a.eval x = .slice ao m c) (hsrc : Is3 w et ao m c U) (hnm : T.length + m ≤ 100000000) (hbase : base ≤ w.heap.size)
    (h : ∀ v' w', Own3 w' base et v' (T ++ U) → w.grownBy w' v.ownBlock → (∀ g, v'.ownBlock = some g → v.ownBlock = some g ∨ w.heap.size ≤ g) → wpList Try.prog ops Q rest (a.put o.dst v') w') : wpList Try.prog ops Q (o :: rest) a w := by
  obtain ⟨v', w', hr, h2, h3, h4⟩ := run_append3 hT o.type base v T hown ao m c U hsrc hnm hbase
  refine wpList_plain hgd fun K hK => ?_
  unfold Oper.wp execOp
  simp only [ho, resolve, invoke, builtin, Sem.run_bind, Sem.run_pure, Result.andThen_ok, List.map_toArray, List.map_cons, List.map_nil, hs, hx, hr]
  exact hK _ _ (h v' w' h2 h3 h4)
end Go.Proofs.Ytgbpgmbnihfkkaa
