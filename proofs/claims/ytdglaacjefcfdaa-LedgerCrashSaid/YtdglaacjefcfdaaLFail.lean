/- ledger: Add as the fuse burns, on a broken ledger -/
import Derived.Test.YtdglaacjefcfdaaLAdd
import Derived.Test.YtdglaacjefcfdaaDFail
namespace Go.Proofs.Ytdglaacjefcfdaa
open Go.RowKit
set_option linter.unusedVariables false
variable {fu : Int}
theorem AddEnd_fail (rp fp bp l : Nat) (u : FrameMode) (w : World) (hr : w.cell? ⟨rp, 0, none⟩ = some (.int .i64 10)) (hf : w.cell? ⟨fp, 0, none⟩ = some (.bool false)) (hb : w.cell? ⟨bp, 0, none⟩ = some (.pointer (some ⟨l, 0, none⟩)))
    (hl : w.cell? ⟨l, 4, none⟩ = some (.bool false)) (hz : w.frozen? ⟨l, 4, none⟩ = false) :
    CallsD Try.prog 28 #[.pointer (some ⟨rp, 0, none⟩), .pointer (some ⟨fp, 0, none⟩), .pointer (some ⟨bp, 0, none⟩)] u w fun e u' w' => u' = u ∧ (e = .returned (.tuple #[]) ∧ w' = w.setCell ⟨l, 4, none⟩ (.bool true)) := by
  go_enter_d Try.func28, Try.ntmps28
  go_wp2
  go_end0
  exact ⟨rfl, rfl⟩
theorem DiskHas.moved {w w' : World} {d mb f base : Nat} {S : List UInt8} {D : List Deed} (h : DiskHas w d mb f base S D) (P : Nat → Prop)
    (hp : ∀ j, P j → ∃ c t fr, w.heap[j]? = some (.cells c t fr) ∧ t ≠ 67 ∧ t ≠ 77 ∧ t ≠ 94 ∧ ∀ v ∈ c.toList, plainV v = true) (hb : ∀ j, j < w.heap.size → ¬ P j → w'.heap[j]? = w.heap[j]?) : DiskHas w' d mb f base S D := by
  obtain ⟨st, fu, out, c, b, h1, h2, h3, h4, h5⟩ := h
  have nd : ¬ P d := by
    intro h
    obtain ⟨c, t, fr, hc, ht, _⟩ := hp d h
    unfold DiskRow at h3; rw [h3] at hc; cases hc; exact ht rfl
  have nm : ¬ P mb := by
    intro h
    obtain ⟨c, t, fr, hc, ht, _⟩ := hp mb h
    rw [h4] at hc; cases hc
  have nf : ¬ P f := by
    intro h
    obtain ⟨c, t, fr, hc, _, ht, _⟩ := hp f h
    obtain ⟨⟨ao, n, cap, lv, hr, _⟩, _⟩ := h5
    unfold FileRow at hr; rw [hr] at hc; cases hc; exact ht rfl
  refine ⟨st, fu, out, c, b, h1, h2, (hb d h3.lt nd).trans h3, (hb mb (heap_lt h4) nm).trans h4, h5.moved P (fun j hj => ?_) nf (fun c t j hj e => ?_) hb⟩
  · obtain ⟨c, t, fr, hc, _, _, _, ha⟩ := hp j hj
    exact plain_of_cells hc ha
  · obtain ⟨c', t', fr, hc, _, _, ht, _⟩ := hp j hj
    rw [hc] at e; cases e; exact ht rfl
theorem fail_end {w5 : World} {d mb f base l N F : Nat} {n sz : Int} {S : List UInt8} {D : List Deed} (e0 : w5.heap[N]? = some (.cells #[.pointer (some ⟨l, 0, none⟩)] 27 (0, 0))) (e1 : w5.heap[N + 1]? = some (.cells #[.int .i64 0] 30 (0, 0)))
    (eF : w5.heap[F]? = some (.cells #[.bool false] 4 (0, 0))) (hl : w5.heap[l]? = some (.cells #[.pointer (some ⟨d, 0, none⟩), .string logB, .int .i64 n, .int .i64 sz, .bool false] 46 (0, 0))) (hd : DiskHas w5 d mb f base S D) (w6 : World)
    (h6 : w5.setCell ⟨N + 1, 0, none⟩ (.int .i64 10) = w6) :
    l ≠ N + 1 ∧ w6.cell? ⟨N + 1, 0, none⟩ = some (.int .i64 10) ∧ w6.cell? ⟨F, 0, none⟩ = some (.bool false) ∧ w6.cell? ⟨N, 0, none⟩ = some (.pointer (some ⟨l, 0, none⟩)) ∧ w6.cell? ⟨l, 4, none⟩ = some (.bool false) ∧ w6.frozen? ⟨l, 4, none⟩ = false ∧
      (w6.setCell ⟨l, 4, none⟩ (.bool true)).heap[l]? = some (.cells #[.pointer (some ⟨d, 0, none⟩), .string logB, .int .i64 n, .int .i64 sz, .bool true] 46 (0, 0)) ∧ DiskHas (w6.setCell ⟨l, 4, none⟩ (.bool true)) d mb f base S D := by
  have n1 : l ≠ N + 1 := by rintro rfl; rw [hl] at e1; cases e1
  have n2 : l ≠ N := by rintro rfl; rw [hl] at e0; cases e0
  have n3 : l ≠ F := by rintro rfl; rw [hl] at eF; cases eF
  have n4 : F ≠ N + 1 := by rintro rfl; rw [eF] at e1; cases e1
  have hk : ∀ j, j ≠ N + 1 → w6.heap[j]? = w5.heap[j]? := by
    intro j h2
    rw [← h6, Below.heap_setCell _ _ _ _ h2]
  have hl6 := (hk l n1).trans hl
  have hr6 : w6.heap[N + 1]? = some (.cells #[.int .i64 10] 30 (0, 0)) := by
    rw [← h6]
    have hy := heap_setCell_same w5 (N + 1) 0 _ _ (.int .i64 10) e1
    exact hy
  have hl7 := heap_setCell_same w6 l 4 _ _ (.bool true) hl6
  refine ⟨n1, cell_of_row _ _ _ _ _ _ hr6, cell_of_row _ _ _ _ _ _ ((hk F n4).trans eF), cell_of_row _ _ _ _ _ _ ((hk N (by omega)).trans e0), cell_of_row _ _ _ _ _ _ hl6, frozen_of_row _ _ _ _ _ hl6, hl7, ?_⟩
  refine hd.moved (fun j => j = l ∨ j = N + 1) ?_ ?_
  · rintro j (rfl | rfl)
    · exact ⟨_, _, _, hl, by decide, by decide, by decide, by simp [plainV]⟩
    · exact ⟨_, _, _, e1, by decide, by decide, by decide, by simp [plainV]⟩
  · intro j hj hn
    rw [Below.heap_setCell _ _ _ _ (fun e => hn (.inl e))]
    exact hk j (fun e => hn (.inr e))
set_option maxRecDepth 100000 in
set_option maxHeartbeats 2000000 in
theorem Add_out (base d mb f l : Nat) (n sz : Int) (S : List UInt8) (ao : Option Addr) (m cap : Nat) (B : List UInt8) (w : World) (hbs : base ≤ w.heap.size) (hl : LedRow w l d n sz false) (hd : DiskOwn w 0 d mb f base S []) (hB : IsBytes w ao m cap B)
    (hn0 : 0 ≤ n) (hn1 : n ≤ 1000000) (hz0 : 0 ≤ sz) (hz1 : sz ≤ 2000000) (hm : m ≤ 65536) (hS : S.length + m + 12 ≤ 1048576) :
    Calls Try.prog 11 #[.pointer (some ⟨l, 0, none⟩), .slice ao m cap] w fun e w' => e = .returned (.int .i64 10) ∧ LedRow w' l d n sz true ∧ DiskHas w' d mb f base S [] ∧ MovedL d mb f l base w w' := by
  have hmf : ∀ (fn : Fn) (first cap : Array Value) (w : World), (Instr.makeFunc fn first cap).run Try.prog w = .ok (.func fn first cap) w := fun _ _ _ _ => rfl
  have HL := Lib.hid hl
  have HD := Lib.hid hd
  have HB := Lib.hid hB
  have HS := Lib.hid hS
  clear hl hd hB hS
  go_enter_defers Try.func11, Try.ntmps11
  go_wp2_with fail
  generalize hw1 : (w.alloc (.cells #[.pointer (some ⟨l, 0, none⟩)] 27)).alloc (.cells #[.int .i64 0] 30) = w1
  obtain ⟨b0, b1, hB1, hS1⟩ := add_boxes l w w1 hw1
  clear hw1
  generalize hN : w.heap.size = N at b0 b1 hS1 hbs ⊢
  have hl1 := HL.out.later hB1
  obtain ⟨l0, l1, l2, l3, l4⟩ := hl1.cells
  have c0 : w1.cell? ⟨N, 0, none⟩ = some (.pointer (some ⟨l, 0, none⟩)) := cell_of_row _ _ _ _ _ _ b0
  have HL1 := Lib.hid hl1
  have HBX := Lib.hid (And.intro b0 b1)
  have HBL := Lib.hid hB1
  clear hl1 b0 b1 hB1 l0 l1 l2 l3
  refine (lnone_any l d n sz false w1 HL1.out).mono ?_
  rintro e w' ⟨rfl, rfl⟩
  go_wp2_with fail
  refine (Put_any ao m cap B w1 (HB.out.later HBL.out) hm).mono ?_
  rintro e w2 ⟨v, rfl, hown, hb2⟩
  have x0 : w2.heap[N]? = _ := (hb2.block N (by omega)).trans HBX.out.1
  have x1 : w2.heap[N + 1]? = _ := (hb2.block (N + 1) (by omega)).trans HBX.out.2
  have c1 : w2.cell? ⟨N + 1, 0, none⟩ = some (.int .i64 0) := cell_of_row _ _ _ _ _ _ x1
  have z1 : w2.frozen? ⟨N + 1, 0, none⟩ = false := frozen_of_row _ _ _ _ _ x1
  obtain ⟨va, vc, hv, hvb, _⟩ := hown.bytes
  obtain ⟨K, hK⟩ : ∃ K, K = (Fr.putF B).length := ⟨_, rfl⟩
  rw [← hK] at hv hvb
  subst hv
  have HVB := Lib.hid hvb
  have HKK := Lib.hid hK
  have HX := Lib.hid (And.intro x0 x1)
  have HB2 := Lib.hid hb2
  clear x0 x1 hown hb2 hvb hK
  go_wp2_with fail
  obtain ⟨F, hF⟩ : ∃ F, F = w2.heap.size := ⟨_, rfl⟩
  rw [← hF]
  generalize hw3 : ((w2.setCell ⟨N + 1, 0, none⟩ (.int .i64 0)).alloc (.cells #[.bool false] 4) : World) = w3
  obtain ⟨y0, y1, yF, hb3, hK3⟩ := add_three N F l (.int .i64 0) w2 w3 hF HX.out.1 HX.out.2 hw3
  have hbw : Below w.heap.size w w3 := HBL.out.trans (by rw [hN]; exact ((HB2.out.mono (by omega)).trans (hb3.mono (by omega))))
  have hl3 := HL.out.later hbw
  have hd3 := HD.out.later hbw
  have hv3 : IsBytes w3 va K vc (Fr.putF B) := HVB.out.moved hK3
  have hbs3 : base ≤ w3.heap.size := Nat.le_trans (by omega) hbw.size
  have hKm : K = m + 12 := by rw [HKK.out, putF_length, HB.out.1]
  have HW3 := Lib.hid (And.intro y0 (And.intro y1 (And.intro yF (And.intro hbw (And.intro hl3 (And.intro hd3 (And.intro hv3 (And.intro hbs3 hKm))))))))
  have k0 : w3.cell? ⟨N, 0, none⟩ = some (.pointer (some ⟨l, 0, none⟩)) := cell_of_row _ _ _ _ _ _ y0
  obtain ⟨k1, k2, _, _, _⟩ := hl3.cells
  clear y0 y1 yF hbw hl3 hd3 hv3 hbs3 hKm hb3 hK3 c1 z1 hw3 hF
  go_region_held3 (fun w' => w'.cell? ⟨N, 0, none⟩ = some (.pointer (some ⟨l, 0, none⟩)) ∧ w'.cell? ⟨l, 0, none⟩ = some (.pointer (some ⟨d, 0, none⟩)) ∧ w'.cell? ⟨l, 1, none⟩ = some (.string logB))
    (first
      | (exact ⟨k0, k1, k2⟩)
      | (exact ⟨q0, q1, q2⟩))
    (first
      | (go_at_call 14
         refine (Append_out base d mb f S [] va K vc (Fr.putF B) w3.drew HW3.out.2.2.2.2.2.2.2.1 (HW3.out.2.2.2.2.2.1.later (Below.refl _ _).drew) (HW3.out.2.2.2.2.2.2.1.later (Below.refl _ _).drew) (by have h1 := HW3.out.2.2.2.2.2.2.2.2; have h2 := HS.out; rw [allB_nil]; omega)).mono ?_
         rintro e w4 ⟨rfl, hd4, hmv4⟩
         have hmw4 := Moved.trans (Moved.of_below (d := d) (mb := mb) (f := f) (base := base) (Below.refl _ w3).drew) hmv4
         have hl4 : LedRow w4 l d n sz false := hmw4.cells HW3.out.2.2.2.2.2.1.log HW3.out.2.2.2.2.1 (by decide) (by decide) (by decide)
         have q0' := hmw4.cells HW3.out.2.2.2.2.2.1.log HW3.out.1 (by decide) (by decide) (by decide)
         have q0 : w4.cell? ⟨N, 0, none⟩ = some (.pointer (some ⟨l, 0, none⟩)) := cell_of_row _ _ _ _ _ _ q0'
         have q1 := hl4.cells.1
         have q2 := hl4.cells.2.1))
  all_goals
    go_split_ands
    have qR := hmw4.cells HW3.out.2.2.2.2.2.1.log HW3.out.2.1 (by decide) (by decide) (by decide)
    have qF := hmw4.cells HW3.out.2.2.2.2.2.1.log HW3.out.2.2.1 (by decide) (by decide) (by decide)
    have HW4 := Lib.hid (And.intro q0' (And.intro qR (And.intro qF (And.intro hl4 (And.intro hd4 hmw4)))))
    have cR : w4.cell? ⟨N + 1, 0, none⟩ = some (.int .i64 0) := cell_of_row _ _ _ _ _ _ qR
    have zR : w4.frozen? ⟨N + 1, 0, none⟩ = false := frozen_of_row _ _ _ _ _ qR
    clear q0' qR qF hl4 hd4 hmw4 hmv4
    go_wp2_with fail
    generalize hw6 : (w4.setCell ⟨N + 1, 0, none⟩ (.int .i64 10) : World) = w6
    obtain ⟨hne, u1, uF, u0, u4, uz, hl6, hd6⟩ := fail_end HW4.out.1 HW4.out.2.1 HW4.out.2.2.1 HW4.out.2.2.2.1 HW4.out.2.2.2.2.1 w6 hw6
    refine leaves_cons (f := 28) (args := #[.pointer (some ⟨N + 1, 0, none⟩), .pointer (some ⟨F, 0, none⟩), .pointer (some ⟨N, 0, none⟩)]) (by simp) (by simp [go_sem]) ?_
    refine (AddEnd_fail (N + 1) F N l .returning w6 u1 uF u0 u4 uz).mono ?_
    rintro e u' w7 ⟨rfl, rfl, rfl⟩
    have hend : LedRow (w6.setCell ⟨l, 4, none⟩ (.bool true)) l d n sz true ∧ DiskHas (w6.setCell ⟨l, 4, none⟩ (.bool true)) d mb f base S [] ∧ MovedL d mb f l base w (w6.setCell ⟨l, 4, none⟩ (.bool true)) := by
      refine ⟨hl6, hd6, ?_⟩
      rw [← hw6]
      exact ((MovedL.setCell (p := ⟨N + 1, 0, none⟩) (MovedL.of (Moved.trans (Moved.of_below HW3.out.2.2.2.1) HW4.out.2.2.2.2.2)) (.inr (by dsimp only; omega)) _).setCell (p := ⟨l, 4, none⟩) (.inl rfl) _)
    have u8 : (w6.setCell ⟨l, 4, none⟩ (.bool true)).cell? ⟨N + 1, 0, none⟩ = some (.int .i64 10) := by
      rw [World.cell?_of_block (w := w6) (Below.heap_setCell _ _ _ _ (by dsimp only; exact Ne.symm hne))]
      exact u1
    generalize w6.setCell ⟨l, 4, none⟩ (.bool true) = w7 at hend u8 ⊢
    have HEND := Lib.hid hend
    clear hend
    simp [Leaves, settle, results, Try.results11, go_sem, u8]
    exact HEND.out
set_option maxRecDepth 100000 in
set_option maxHeartbeats 2000000 in
theorem Add_half (base d mb f l : Nat) (n sz : Int) (S : List UInt8) (ao : Option Addr) (m cap : Nat) (B : List UInt8) (w : World) (hbs : base ≤ w.heap.size) (hfu : fu ≠ 0) (hfu2 : dec fu = 0) (hl : LedRow w l d n sz false) (hd : DiskOwn w fu d mb f base S []) (hB : IsBytes w ao m cap B)
    (hn0 : 0 ≤ n) (hn1 : n ≤ 1000000) (hz0 : 0 ≤ sz) (hz1 : sz ≤ 2000000) (hm : m ≤ 65536) (hS : S.length + m + 12 ≤ 1048576) :
    Calls Try.prog 11 #[.pointer (some ⟨l, 0, none⟩), .slice ao m cap] w fun e w' => e = .returned (.int .i64 10) ∧ LedRow w' l d n sz true ∧ DiskHas w' d mb f base S [Deed.more (Fr.putF B)] ∧ MovedL d mb f l base w w' := by
  have hmf : ∀ (fn : Fn) (first cap : Array Value) (w : World), (Instr.makeFunc fn first cap).run Try.prog w = .ok (.func fn first cap) w := fun _ _ _ _ => rfl
  have HL := Lib.hid hl
  have HD := Lib.hid hd
  have HB := Lib.hid hB
  have HS := Lib.hid hS
  have HFU := Lib.hid (And.intro hfu hfu2)
  clear hl hd hB hS hfu hfu2
  go_enter_defers Try.func11, Try.ntmps11
  go_wp2_with fail
  generalize hw1 : (w.alloc (.cells #[.pointer (some ⟨l, 0, none⟩)] 27)).alloc (.cells #[.int .i64 0] 30) = w1
  obtain ⟨b0, b1, hB1, hS1⟩ := add_boxes l w w1 hw1
  clear hw1
  generalize hN : w.heap.size = N at b0 b1 hS1 hbs ⊢
  have hl1 := HL.out.later hB1
  obtain ⟨l0, l1, l2, l3, l4⟩ := hl1.cells
  have c0 : w1.cell? ⟨N, 0, none⟩ = some (.pointer (some ⟨l, 0, none⟩)) := cell_of_row _ _ _ _ _ _ b0
  have HL1 := Lib.hid hl1
  have HBX := Lib.hid (And.intro b0 b1)
  have HBL := Lib.hid hB1
  clear hl1 b0 b1 hB1 l0 l1 l2 l3
  refine (lnone_any l d n sz false w1 HL1.out).mono ?_
  rintro e w' ⟨rfl, rfl⟩
  go_wp2_with fail
  refine (Put_any ao m cap B w1 (HB.out.later HBL.out) hm).mono ?_
  rintro e w2 ⟨v, rfl, hown, hb2⟩
  have x0 : w2.heap[N]? = _ := (hb2.block N (by omega)).trans HBX.out.1
  have x1 : w2.heap[N + 1]? = _ := (hb2.block (N + 1) (by omega)).trans HBX.out.2
  have c1 : w2.cell? ⟨N + 1, 0, none⟩ = some (.int .i64 0) := cell_of_row _ _ _ _ _ _ x1
  have z1 : w2.frozen? ⟨N + 1, 0, none⟩ = false := frozen_of_row _ _ _ _ _ x1
  obtain ⟨va, vc, hv, hvb, _⟩ := hown.bytes
  obtain ⟨K, hK⟩ : ∃ K, K = (Fr.putF B).length := ⟨_, rfl⟩
  rw [← hK] at hv hvb
  subst hv
  have HVB := Lib.hid hvb
  have HKK := Lib.hid hK
  have HX := Lib.hid (And.intro x0 x1)
  have HB2 := Lib.hid hb2
  clear x0 x1 hown hb2 hvb hK
  go_wp2_with fail
  obtain ⟨F, hF⟩ : ∃ F, F = w2.heap.size := ⟨_, rfl⟩
  rw [← hF]
  generalize hw3 : ((w2.setCell ⟨N + 1, 0, none⟩ (.int .i64 0)).alloc (.cells #[.bool false] 4) : World) = w3
  obtain ⟨y0, y1, yF, hb3, hK3⟩ := add_three N F l (.int .i64 0) w2 w3 hF HX.out.1 HX.out.2 hw3
  have hbw : Below w.heap.size w w3 := HBL.out.trans (by rw [hN]; exact ((HB2.out.mono (by omega)).trans (hb3.mono (by omega))))
  have hl3 := HL.out.later hbw
  have hd3 := HD.out.later hbw
  have hv3 : IsBytes w3 va K vc (Fr.putF B) := HVB.out.moved hK3
  have hbs3 : base ≤ w3.heap.size := Nat.le_trans (by omega) hbw.size
  have hKm : K = m + 12 := by rw [HKK.out, putF_length, HB.out.1]
  have HW3 := Lib.hid (And.intro y0 (And.intro y1 (And.intro yF (And.intro hbw (And.intro hl3 (And.intro hd3 (And.intro hv3 (And.intro hbs3 hKm))))))))
  have k0 : w3.cell? ⟨N, 0, none⟩ = some (.pointer (some ⟨l, 0, none⟩)) := cell_of_row _ _ _ _ _ _ y0
  obtain ⟨k1, k2, _, _, _⟩ := hl3.cells
  clear y0 y1 yF hbw hl3 hd3 hv3 hbs3 hKm hb3 hK3 c1 z1 hw3 hF
  go_region_held3 (fun w' => w'.cell? ⟨N, 0, none⟩ = some (.pointer (some ⟨l, 0, none⟩)) ∧ w'.cell? ⟨l, 0, none⟩ = some (.pointer (some ⟨d, 0, none⟩)) ∧ w'.cell? ⟨l, 1, none⟩ = some (.string logB))
    (first
      | (exact ⟨k0, k1, k2⟩)
      | (exact ⟨q0, q1, q2⟩))
    (first
      | (go_at_call 14
         refine (Append_log base d mb f S [] va K vc (Fr.putF B) w3.drew HW3.out.2.2.2.2.2.2.2.1 HFU.out.1 (HW3.out.2.2.2.2.2.1.later (Below.refl _ _).drew) (HW3.out.2.2.2.2.2.2.1.later (Below.refl _ _).drew) (by have h1 := HW3.out.2.2.2.2.2.2.2.2; have h2 := HS.out; rw [allB_nil]; omega) (by simp) (by have h1 := HKK.out; have h2 := HW3.out.2.2.2.2.2.2.2.2; have h3 := HS.out; simp [Deed.units]; omega)).mono ?_
         rintro e w4 ⟨rfl, hd4, hmv4⟩
         have hmw4 := Moved.trans (Moved.of_below (d := d) (mb := mb) (f := f) (base := base) (Below.refl _ w3).drew) hmv4
         have hl4 : LedRow w4 l d n sz false := hmw4.cells HW3.out.2.2.2.2.2.1.log HW3.out.2.2.2.2.1 (by decide) (by decide) (by decide)
         have q0' := hmw4.cells HW3.out.2.2.2.2.2.1.log HW3.out.1 (by decide) (by decide) (by decide)
         have q0 : w4.cell? ⟨N, 0, none⟩ = some (.pointer (some ⟨l, 0, none⟩)) := cell_of_row _ _ _ _ _ _ q0'
         have q1 := hl4.cells.1
         have q2 := hl4.cells.2.1))
  all_goals
    go_split_ands
    go_wp2_with fail
    have qR := hmw4.cells HW3.out.2.2.2.2.2.1.log HW3.out.2.1 (by decide) (by decide) (by decide)
    have qF := hmw4.cells HW3.out.2.2.2.2.2.1.log HW3.out.2.2.1 (by decide) (by decide) (by decide)
    have HW4 := Lib.hid (And.intro q0' (And.intro qR (And.intro qF (And.intro hl4 (And.intro hd4 hmw4)))))
    clear q0' qR qF hl4 hd4 hmw4 hmv4
    go_region_held3 (fun w' => w'.cell? ⟨N, 0, none⟩ = some (.pointer (some ⟨l, 0, none⟩)) ∧ w'.cell? ⟨l, 0, none⟩ = some (.pointer (some ⟨d, 0, none⟩)) ∧ w'.cell? ⟨l, 1, none⟩ = some (.string logB))
      (first
        | (exact ⟨q0, q1, q2⟩)
        | (exact ⟨s0, s1, s2⟩))
      (first
        | (go_at_call 15
           refine (Sync_out base d mb f S (laid [] K (Fr.putF B)) w4.drew (by rw [← HFU.out.2]; exact HW4.out.2.2.2.2.1.later (Below.refl _ _).drew)).mono ?_
           rintro e w5 ⟨rfl, hd5, hmv5⟩
           have hmw5 := Moved.trans (Moved.of_below (d := d) (mb := mb) (f := f) (base := base) (Below.refl _ w4).drew) hmv5
           have hl5 : LedRow w5 l d n sz false := hmw5.cells HW4.out.2.2.2.2.1.log HW4.out.2.2.2.1 (by decide) (by decide) (by decide)
           have s0' := hmw5.cells HW4.out.2.2.2.2.1.log HW4.out.1 (by decide) (by decide) (by decide)
           have s0 : w5.cell? ⟨N, 0, none⟩ = some (.pointer (some ⟨l, 0, none⟩)) := cell_of_row _ _ _ _ _ _ s0'
           have s1 := hl5.cells.1
           have s2 := hl5.cells.2.1))
    all_goals
      go_split_ands
      have sR := hmw5.cells HW4.out.2.2.2.2.1.log HW4.out.2.1 (by decide) (by decide) (by decide)
      have sF := hmw5.cells HW4.out.2.2.2.2.1.log HW4.out.2.2.1 (by decide) (by decide) (by decide)
      have HW5 := Lib.hid (And.intro s0' (And.intro sR (And.intro sF (And.intro hl5 (And.intro hd5 hmw5)))))
      have cR : w5.cell? ⟨N + 1, 0, none⟩ = some (.int .i64 0) := cell_of_row _ _ _ _ _ _ sR
      have zR : w5.frozen? ⟨N + 1, 0, none⟩ = false := frozen_of_row _ _ _ _ _ sR
      clear sR sF hl5 hd5 hmw5 hmv5 s0'
      go_wp2_with fail
      generalize hw6 : (w5.setCell ⟨N + 1, 0, none⟩ (.int .i64 10) : World) = w6
      obtain ⟨hne, u1, uF, u0, u4, uz, hl6, hd6⟩ := fail_end HW5.out.1 HW5.out.2.1 HW5.out.2.2.1 HW5.out.2.2.2.1 HW5.out.2.2.2.2.1 w6 hw6
      refine leaves_cons (f := 28) (args := #[.pointer (some ⟨N + 1, 0, none⟩), .pointer (some ⟨F, 0, none⟩), .pointer (some ⟨N, 0, none⟩)]) (by simp) (by simp [go_sem]) ?_
      refine (AddEnd_fail (N + 1) F N l .returning w6 u1 uF u0 u4 uz).mono ?_
      rintro e u' w7 ⟨rfl, rfl, rfl⟩
      have hend : LedRow (w6.setCell ⟨l, 4, none⟩ (.bool true)) l d n sz true ∧ DiskHas (w6.setCell ⟨l, 4, none⟩ (.bool true)) d mb f base S [Deed.more (Fr.putF B)] ∧ MovedL d mb f l base w (w6.setCell ⟨l, 4, none⟩ (.bool true)) := by
        refine ⟨hl6, (by have hK0 : K ≠ 0 := (by have := HW3.out.2.2.2.2.2.2.2.2; omega); unfold laid at hd6; rw [if_neg hK0] at hd6; exact hd6), ?_⟩
        rw [← hw6]
        exact ((MovedL.setCell (p := ⟨N + 1, 0, none⟩) (MovedL.of (Moved.trans (Moved.of_below HW3.out.2.2.2.1) (Moved.trans HW4.out.2.2.2.2.2 HW5.out.2.2.2.2.2))) (.inr (by dsimp only; omega)) _).setCell (p := ⟨l, 4, none⟩) (.inl rfl) _)
      have u8 : (w6.setCell ⟨l, 4, none⟩ (.bool true)).cell? ⟨N + 1, 0, none⟩ = some (.int .i64 10) := by
        rw [World.cell?_of_block (w := w6) (Below.heap_setCell _ _ _ _ (by dsimp only; exact Ne.symm hne))]
        exact u1
      generalize w6.setCell ⟨l, 4, none⟩ (.bool true) = w7 at hend u8 ⊢
      have HEND := Lib.hid hend
      clear hend
      simp [Leaves, settle, results, Try.results11, go_sem, u8]
      exact HEND.out
end Go.Proofs.Ytdglaacjefcfdaa
