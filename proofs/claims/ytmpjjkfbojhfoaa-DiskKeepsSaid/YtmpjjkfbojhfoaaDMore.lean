/- apportionkit.SameTexts; disk: what is refused; Steps -/
import Derived.Test.YtmpjjkfbojhfoaaDAwake
namespace Go.Proofs.Ytmpjjkfbojhfoaa
open Go.RowKit Go.Sort
/-- a slice of strings. -/
def IsTexts (w : World) (ao : Option Addr) (n cap : Nat) (L : List ByteArray) : Prop :=
  L.length = n ∧ n ≤ cap ∧ cap ≤ maxLen ∧ (0 < n → ∃ b off, ao = some ⟨b, off, none⟩ ∧ ∀ i, i < n → w.cell? ⟨b, off + i, none⟩ = some (.string (L.getD i ByteArray.empty)))
theorem IsTexts.drew {w : World} {ao : Option Addr} {n cap : Nat} {L : List ByteArray} (h : IsTexts w ao n cap L) : IsTexts w.drew ao n cap L := h
theorem IsTexts.later {w w' : World} {ao : Option Addr} {n cap : Nat} {L : List ByteArray} (h : IsTexts w ao n cap L) (hb : Below w.heap.size w w') : IsTexts w' ao n cap L := by
  obtain ⟨h1, h2, h3, h4⟩ := h
  refine ⟨h1, h2, h3, fun hn => ?_⟩
  obtain ⟨b, off, e, hc⟩ := h4 hn
  exact ⟨b, off, e, fun i hi => (hb.cell (block_lt_of_cell (hc i hi))).trans (hc i hi)⟩
theorem texts_eq {L M : List ByteArray} (h : L.length = M.length) (hi : ∀ i, i < L.length → L.getD i ByteArray.empty = M.getD i ByteArray.empty) : L = M := by
  apply List.ext_getElem?
  intro i
  by_cases h1 : i < L.length
  · have := hi i h1
    rw [List.getD_eq_getElem?_getD, List.getD_eq_getElem?_getD, List.getElem?_eq_getElem h1, List.getElem?_eq_getElem (by omega)] at this
    rw [List.getElem?_eq_getElem h1, List.getElem?_eq_getElem (by omega)]
    simpa using this
  · rw [List.getElem?_eq_none (by omega), List.getElem?_eq_none (by omega)]
set_option maxRecDepth 100000 in
theorem SameTexts_any (ao bo : Option Addr) (n m cap cap2 : Nat) (L M : List ByteArray) (w : World) (h1 : IsTexts w ao n cap L) (h2 : IsTexts w bo m cap2 M) :
    Calls Try.prog 19 #[.slice ao n cap, .slice bo m cap2] w fun e w' => ∃ r, e = .returned (.bool r) ∧ (r = true ↔ L = M) ∧ Below w.heap.size w w' := by
  have HI1 := Lib.hid h1
  have HI2 := Lib.hid h2
  have hnc := h1.2.1
  have hmc := h2.2.1
  have hcm := h1.2.2.1
  have hcm2 := h2.2.2.1
  unfold maxLen at hcm hcm2
  by_cases hnm : n = m
  · subst hnm
    clear h1 h2
    go_enter Try.func19, Try.ntmps19
    go_wp2
    go_loopw [5] (fun i wr => ∃ k : Nat, k ≤ n ∧ i = .int .i64 k ∧ Hid (∀ j, j < k → L.getD j ByteArray.empty = M.getD j ByteArray.empty) ∧ Hid (Below w.heap.size w wr)) (fun i _ => n - (intOf i).toNat)
    case atStart => exact ⟨0, by omega, rfl, Lib.hid (fun j hj => absurd hj (by omega)), Lib.hid (Below.refl _ _)⟩
    case round =>
      obtain ⟨k, hk, rfl, hall, hgr⟩ := hrel
      by_cases hlt : k < n
      · have hi0 : (0 : Int) ≤ (k : Int) := by omega
        have hi1 : (k : Int) < (n : Int) := by omega
        obtain ⟨b, off, rfl, hcs⟩ := (HI1.out.later hgr.out).2.2.2 (by omega)
        obtain ⟨b2, off2, rfl, hcs2⟩ := (HI2.out.later hgr.out).2.2.2 (by omega)
        have hc := hcs k hlt
        have hc2 := hcs2 k hlt
        obtain ⟨x, hx⟩ : ∃ x, x = L.getD k ByteArray.empty := ⟨_, rfl⟩
        obtain ⟨y, hy⟩ : ∃ y, y = M.getD k ByteArray.empty := ⟨_, rfl⟩
        rw [← hx] at hc
        rw [← hy] at hc2
        have HX := Lib.hid hx
        have HY := Lib.hid hy
        clear hcs hcs2 hx hy
        by_cases hxy : x = y
        · subst hxy
          have hbx : (x.toList == x.toList) = true := by simp
          go_wp2_with fail
          go_region
          go_wp2_with fail
          go_roundw
          case rel =>
            refine ⟨k + 1, by omega, by go_num, Lib.hid (fun j hj => ?_), Lib.hid hgr.out.drew⟩
            rcases Nat.lt_succ_iff_lt_or_eq.1 hj with hj | rfl
            · exact hall.out j hj
            · rw [← HX.out, ← HY.out]
          case measure => simp [intOf]; omega
        · have hbx : (x.toList == y.toList) = false := by
            rw [Lib.toList_data, Lib.toList_data]
            exact beq_false_of_ne (fun e => hxy (bytes_inj e))
          go_wp2_with fail
          go_region
          go_wp2_with fail
          go_ret
          refine ⟨_, rfl, ?_, hgr.out.drew⟩
          have hne : L ≠ M := by
            intro e
            apply hxy
            rw [HX.out, HY.out, e]
          simp [hne]
      · obtain rfl : k = n := by omega
        go_wp2_with fail
        go_ret
        refine ⟨_, rfl, ?_, hgr.out⟩
        have : L = M := texts_eq (by rw [HI1.out.1, HI2.out.1]) (fun i hi => hall.out i (by rw [HI1.out.1] at hi; exact hi))
        simp [this]
  · have hnm2 : ¬ (n : Int) = (m : Int) := by omega
    have hne : L ≠ M := by
      intro e
      exact hnm (by rw [← h1.1, ← h2.1, e])
    have HNE := Lib.hid hne
    clear h1 h2 hne
    go_enter Try.func19, Try.ntmps19
    go_wp2
    go_ret
    exact ⟨_, rfl, by simp [HNE.out], Below.refl _ _⟩
variable {nm : ByteArray}
set_option maxRecDepth 100000 in
theorem Steps_any (d mb : Nat) (M : List Ent) (st fu : Int) (out : Bool) (w : World) (h : DiskM w st fu out d mb M) :
    Calls Try.prog 30 #[.pointer (some ⟨d, 0, none⟩)] w fun e w' => e = .returned (.int .i64 st) ∧ w = w' := by
  obtain ⟨hfu, hmd, hd, _⟩ := h
  obtain ⟨h0, h1, h2, h3⟩ := hd.cells
  have HN := Lib.hid (none_any d mb st fu out w hd)
  have hld := run_call_load (P := Try.prog) Try.func75 (by kernel_rfl) (by kernel_rfl) (by kernel_rfl) .i64 (by kernel_rfl) h1
  have HL : Hid (Calls Try.prog 56 #[.pointer (some ⟨d, 1, none⟩)] w fun e w' => e = .returned (.int .i64 st) ∧ w = w') := Lib.hid (by
    clear HN hd h0 h2 h3 hmd hfu
    go_enter Try.func56, Try.ntmps56
    go_wp2
    go_ret
    exact ⟨rfl, rfl⟩)
  clear hd h0 h1 h2 h3 hfu hmd hld
  go_enter Try.func30, Try.ntmps30
  go_wp2_with fail
  refine HN.out.mono ?_
  rintro e w' ⟨rfl, rfl⟩
  go_wp2_with fail
  refine HL.out.mono ?_
  rintro e w' ⟨rfl, rfl⟩
  go_wp2_with fail
  go_ret
  exact ⟨rfl, rfl⟩
set_option maxRecDepth 100000 in
theorem Cut_none (d mb : Nat) (M : List Ent) (z st fu : Int) (w : World) (h : DiskM w st fu false d mb M) (hfo : fileOf nm M = none) :
    Calls Try.prog 29 #[.pointer (some ⟨d, 0, none⟩), .string nm, .int .i64 z] w fun e w' => e = .returned (.int .i64 6) ∧ Below w.heap.size w w' := by
  obtain ⟨c, hm⟩ := h.map
  have HO := Lib.hid (fun (w' : World) (hb : Below w.heap.size w w') => open_none d mb c M st fu w' ((hb.block _ h.2.2.1.lt).trans h.2.2.1) ((hb.block _ (heap_lt hm)).trans hm) hfo)
  clear h hm hfo
  go_enter Try.func29, Try.ntmps29
  go_wp2_with fail
  have hb1 : Below w.heap.size w (w.alloc (.cells #[.int .i64 z] 3)) := (Below.refl _ _).alloc (Nat.le_refl _) _
  have hs : w.heap.size ≤ (w.alloc (.cells #[.int .i64 z] 3)).heap.size := by simp
  have HB := Lib.hid (And.intro hb1 hs)
  clear hb1 hs
  refine (HO.out _ HB.out.1).mono ?_
  rintro e w' ⟨rfl, rfl⟩
  go_wp2_with fail
  go_ret
  exact ⟨rfl, by first | exact HB.out.1 | exact HB.out.1.alloc HB.out.2 _⟩
set_option maxRecDepth 100000 in
/-- a name that may not be. -/
theorem Append_bad (d mb : Nat) (M : List Ent) (st fu : Int) (ao : Option Addr) (n cap : Nat) (w : World) (hnm : nm.size ≤ 1099511627776) (hnf : nameP nm.data.toList = false) (h : DiskM w st fu false d mb M) :
    Calls Try.prog 12 #[.pointer (some ⟨d, 0, none⟩), .string nm, .slice ao n cap] w fun e w' => e = .returned (.int .i64 2) ∧ Below w.heap.size w w' := by
  obtain ⟨p, hp⟩ : ∃ p, fileOf nm M = p := ⟨_, rfl⟩
  obtain ⟨c, hm⟩ := h.map
  have hd := h.2.2.1
  have HNM := Lib.hid (fun w' => named_any nm w' hnm)
  have HNF := Lib.hid hnf
  have HD := Lib.hid hd
  have HM := Lib.hid hm
  have HP := Lib.hid hp
  clear h hd hm hnf hnm hp
  go_enter Try.func12, Try.ntmps12
  go_wp2_with fail
  generalize hw1 : ((w.alloc (.cells #[.pointer (some ⟨d, 0, none⟩)] 27)).alloc (.cells #[.string nm] 9)).alloc (.cells #[.slice ao n cap] 23) = w1
  obtain ⟨b0, b1, b2, hB1, hS1⟩ := app_boxes d nm _ w w1 hw1
  clear hw1
  obtain ⟨N, hN⟩ : ∃ N, N = w.heap.size := ⟨_, rfl⟩
  rw [← hN] at b0 b1 b2 hS1 ⊢
  have HN := Lib.hid hN
  have HD1 : Hid (DiskRow w1 d mb st fu false) := Lib.hid ((hB1.block _ HD.out.lt).trans HD.out)
  have HM1 : Hid (w1.heap[mb]? = some (.map (ents M) c)) := Lib.hid ((hB1.block _ (heap_lt HM.out)).trans HM.out)
  have h1 := HD1.out.cells.1
  have c0 : w1.cell? ⟨N, 0, none⟩ = some (.pointer (some ⟨d, 0, none⟩)) := cell_of_row _ _ _ _ _ _ b0
  have c1 : w1.cell? ⟨N + 1, 0, none⟩ = some (.string nm) := cell_of_row _ _ _ _ _ _ b1
  have hlk0 : (Instr.lookup 61 (.map (some mb)) (.string nm) false).run Try.prog (w1.alloc (.cells #[.pointer none] 72)).drew = .ok (.pointer (p.map fun f => ⟨f, 0, none⟩)) (w1.alloc (.cells #[.pointer none] 72)).drew := by
    rw [← HP.out]
    exact look_ents nm M _ mb c ((Below.heap_alloc w1 (.cells #[.pointer none] 72) mb (heap_lt HM1.out)).trans HM1.out)
  have hlk1 : (Instr.lookup 61 (.map (some mb)) (.string nm) false).run Try.prog w1.drew = .ok (.pointer (p.map fun f => ⟨f, 0, none⟩)) w1.drew := by
    rw [← HP.out]
    exact look_ents nm M w1.drew mb c HM1.out
  have h1a : (w1.alloc (.cells #[.pointer none] 72)).cell? ⟨d, 0, none⟩ = some (.map (some mb)) := (World.cell?_of_block (w := w1) (Below.heap_alloc w1 _ d HD1.out.lt)).trans h1
  generalize (p.map fun f => (⟨f, 0, none⟩ : Addr)) = pv at hlk0 hlk1
  have HBL := Lib.hid (And.intro hB1 (show w.heap.size ≤ w1.heap.size by omega))
  clear b0 b1 b2 hB1 hN
  refine (down_any d mb st fu w1 HD1.out).mono ?_
  rintro e w' ⟨rfl, rfl⟩
  go_wp2_with fail
  go_region
  all_goals
    go_wp2_with fail
    refine (HNM.out _).mono ?_
    rintro e w' ⟨rfl, rfl⟩
    rw [HNF.out]
    go_wp2_with fail
    go_ret
    exact ⟨rfl, HN.out.symm ▸ (HBL.out.1.alloc HBL.out.2 _).drew⟩
end Go.Proofs.Ytmpjjkfbojhfoaa
