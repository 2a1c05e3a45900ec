/- ledger: Add -/
import Derived.Test.YtdglaacjefcfdaaLRow
import Derived.Deep.RegionHeld3
namespace Go.Proofs.Ytdglaacjefcfdaa
open Go.RowKit
variable {fu : Int}
/-- of the old blocks only d, mb, f, l, and those from base on that hold deeds, may have changed. -/
structure MovedL (d mb f l base : Nat) (w w' : World) : Prop where
  os : w'.os = w.os
  tape : w'.tape = w.tape
  output : w'.output = w.output
  size : w.heap.size ≤ w'.heap.size
  block : ∀ j, j < w.heap.size → j ≠ d → j ≠ mb → j ≠ f → j ≠ l → (base ≤ j → ∀ c t, w.heap[j]? ≠ some (.cells c 94 t)) → w'.heap[j]? = w.heap[j]?
theorem MovedL.trans {d mb f l base : Nat} {a b c : World} (h : MovedL d mb f l base a b) (k : MovedL d mb f l base b c) : MovedL d mb f l base a c := by
  refine ⟨k.os.trans h.os, k.tape.trans h.tape, k.output.trans h.output, Nat.le_trans h.size k.size, fun j hj h1 h2 h3 h4 h5 => ?_⟩
  have e := h.block j hj h1 h2 h3 h4 h5
  exact (k.block j (Nat.lt_of_lt_of_le hj h.size) h1 h2 h3 h4 (by rw [e]; exact h5)).trans e
theorem MovedL.of {d mb f l base : Nat} {a b : World} (h : Moved d mb f base a b) : MovedL d mb f l base a b :=
  ⟨h.os, h.tape, h.output, h.size, fun j hj h1 h2 h3 _ h5 => h.block j hj h1 h2 h3 h5⟩
theorem MovedL.setCell {d mb f l base : Nat} {a w : World} (h : MovedL d mb f l base a w) {p : Addr} (hp : p.block = l ∨ a.heap.size ≤ p.block) (u : Value) : MovedL d mb f l base a (w.setCell p u) := by
  refine ⟨h.os, h.tape, h.output, by simpa using h.size, fun j hj h1 h2 h3 h4 h5 => ?_⟩
  rw [Below.heap_setCell _ _ _ _ (by rcases hp with e | e <;> omega)]
  exact h.block j hj h1 h2 h3 h4 h5
theorem MovedL.below {d mb f l base : Nat} {w w' : World} (h : MovedL d mb f l base w w') (h1 : base ≤ d) (h2 : base ≤ mb) (h3 : base ≤ f) (h4 : base ≤ l) (hb : base ≤ w.heap.size) : Below base w w' :=
  ⟨h.os, h.tape, h.output, h.size, fun j hj => h.block j (by omega) (by omega) (by omega) (by omega) (by omega) (by omega)⟩
/-- a block of other cells stays. -/
theorem Moved.cells {d mb f base j : Nat} {w w' : World} {S : List UInt8} {D : List Deed} {c : Array Value} {t : TypeId} {fr : Nat × Nat} (h : Moved d mb f base w w') (hd : DiskLog w fu d mb f S D) (hj : w.heap[j]? = some (.cells c t fr))
    (h1 : t ≠ 67) (h2 : t ≠ 77) (h3 : t ≠ 94) : w'.heap[j]? = some (.cells c t fr) := by
  obtain ⟨st, cc, b, hfu, hmd, hdr, hm, ⟨⟨ao, n, cap, al, m, capl, hr, hs, hds⟩, hf, hsm⟩⟩ := hd
  refine (h.block j (heap_lt hj) ?_ ?_ ?_ ?_).trans hj
  · rintro rfl; unfold DiskRow at hdr; rw [hdr] at hj; cases hj; exact h1 rfl
  · rintro rfl; rw [hm] at hj; cases hj
  · rintro rfl; unfold FileRow at hr; rw [hr] at hj; cases hj; exact h2 rfl
  · intro _ c' t' e; rw [hj] at e; cases e; exact h3 rfl
theorem allB_one (S x : List UInt8) : allB S [Deed.more x] = S ++ x := by
  unfold allB unitsD
  cases x with
  | nil => simp [Deed.units, afterZ]
  | cons a x =>
    rw [afterZ_more _ _ _ (by simp [Deed.units])]
    simp [Deed.units, afterZ]
theorem allB_nil (S : List UInt8) : allB S [] = S := rfl
theorem putF_length (B : List UInt8) : (Fr.putF B).length = B.length + 12 := by
  simp [Fr.putF, Fr.le4]
/-- a disk, where only other blocks change. -/
theorem DiskOwn.moved {w w' : World} {d mb f base : Nat} {S : List UInt8} {D : List Deed} (h : DiskOwn w fu d mb f base S D) (P : Nat → Prop)
    (hp : ∀ j, P j → ∃ c t fr, w.heap[j]? = some (.cells c t fr) ∧ t ≠ 67 ∧ t ≠ 77 ∧ t ≠ 94 ∧ ∀ v ∈ c.toList, plainV v = true) (hb : ∀ j, j < w.heap.size → ¬ P j → w'.heap[j]? = w.heap[j]?) : DiskOwn w' fu d mb f base S D := by
  obtain ⟨st, c, b, h1, h2, h3, h4, h5⟩ := h
  have nd : ¬ P d := by
    intro h
    obtain ⟨c, t, fr, hc, ht, _⟩ := hp d h
    unfold DiskRow at h3; rw [h3] at hc; cases hc; exact ht rfl
  have nm : ¬ P mb := by
    intro h
    obtain ⟨c, t, fr, hc, ht, _⟩ := hp mb h
    rw [h4] at hc; cases hc
  have nf : ¬ P f := by
    intro h
    obtain ⟨c, t, fr, hc, _, ht, _⟩ := hp f h
    obtain ⟨⟨ao, n, cap, lv, hr, _⟩, _⟩ := h5
    unfold FileRow at hr; rw [hr] at hc; cases hc; exact ht rfl
  refine ⟨st, c, b, h1, h2, (hb d h3.lt nd).trans h3, (hb mb (heap_lt h4) nm).trans h4, h5.moved P (fun j hj => ?_) nf (fun c t j hj e => ?_) hb⟩
  · obtain ⟨c, t, fr, hc, _, _, _, ha⟩ := hp j hj
    exact plain_of_cells hc ha
  · obtain ⟨c', t', fr, hc, _, _, ht, _⟩ := hp j hj
    rw [hc] at e; cases e; exact ht rfl
theorem add_end {w5 : World} {d mb f base l N F : Nat} {n sz n' z' : Int} {S : List UInt8} {D : List Deed} (e0 : w5.heap[N]? = some (.cells #[.pointer (some ⟨l, 0, none⟩)] 27 (0, 0))) (e1 : w5.heap[N + 1]? = some (.cells #[.int .i64 0] 30 (0, 0)))
    (eF : w5.heap[F]? = some (.cells #[.bool false] 4 (0, 0))) (hl : w5.heap[l]? = some (.cells #[.pointer (some ⟨d, 0, none⟩), .string logB, .int .i64 n, .int .i64 sz, .bool false] 46 (0, 0))) (hd : DiskOwn w5 fu d mb f base S D) (w6 : World)
    (h6 : ((w5.setCell ⟨l, 2, none⟩ (.int .i64 n')).setCell ⟨l, 3, none⟩ (.int .i64 z')).setCell ⟨N + 1, 0, none⟩ (.int .i64 0) = w6) :
    l ≠ N + 1 ∧ w6.cell? ⟨N + 1, 0, none⟩ = some (.int .i64 0) ∧ w6.cell? ⟨F, 0, none⟩ = some (.bool false) ∧ w6.cell? ⟨N, 0, none⟩ = some (.pointer (some ⟨l, 0, none⟩)) ∧ w6.cell? ⟨l, 4, none⟩ = some (.bool false) ∧ w6.frozen? ⟨l, 4, none⟩ = false ∧
      (w6.setCell ⟨l, 4, none⟩ (.bool false)).heap[l]? = some (.cells #[.pointer (some ⟨d, 0, none⟩), .string logB, .int .i64 n', .int .i64 z', .bool false] 46 (0, 0)) ∧ DiskOwn (w6.setCell ⟨l, 4, none⟩ (.bool false)) fu d mb f base S D := by
  have n1 : l ≠ N + 1 := by rintro rfl; rw [hl] at e1; cases e1
  have n2 : l ≠ N := by rintro rfl; rw [hl] at e0; cases e0
  have n3 : l ≠ F := by rintro rfl; rw [hl] at eF; cases eF
  have n4 : F ≠ N + 1 := by rintro rfl; rw [eF] at e1; cases e1
  have hk : ∀ j, j ≠ l → j ≠ N + 1 → w6.heap[j]? = w5.heap[j]? := by
    intro j h1 h2
    rw [← h6, Below.heap_setCell _ _ _ _ h2, Below.heap_setCell _ _ _ _ h1, Below.heap_setCell _ _ _ _ h1]
  have hl6 : w6.heap[l]? = some (.cells #[.pointer (some ⟨d, 0, none⟩), .string logB, .int .i64 n', .int .i64 z', .bool false] 46 (0, 0)) := by
    rw [← h6, Below.heap_setCell _ _ _ _ n1]
    exact heap_setCell_same _ l 3 _ _ _ (heap_setCell_same w5 l 2 _ _ _ hl)
  have hr6 : w6.heap[N + 1]? = some (.cells #[.int .i64 0] 30 (0, 0)) := by
    rw [← h6]
    have hx : ((w5.setCell ⟨l, 2, none⟩ (.int .i64 n')).setCell ⟨l, 3, none⟩ (.int .i64 z')).heap[N + 1]? = some (.cells #[.int .i64 0] 30 (0, 0)) := by
      rw [Below.heap_setCell _ _ _ _ (Ne.symm n1), Below.heap_setCell _ _ _ _ (Ne.symm n1)]
      exact e1
    have hy := heap_setCell_same _ (N + 1) 0 _ _ (.int .i64 0) hx
    exact hy
  refine ⟨n1, cell_of_row _ _ _ _ _ _ hr6, cell_of_row _ _ _ _ _ _ ((hk F (Ne.symm n3) n4).trans eF), cell_of_row _ _ _ _ _ _ ((hk N (Ne.symm n2) (by omega)).trans e0), cell_of_row _ _ _ _ _ _ hl6, frozen_of_row _ _ _ _ _ hl6, heap_setCell_same w6 l 4 _ _ _ hl6, ?_⟩
  refine hd.moved (fun j => j = l ∨ j = N + 1) ?_ ?_
  · rintro j (rfl | rfl)
    · exact ⟨_, _, _, hl, by decide, by decide, by decide, by simp [plainV]⟩
    · exact ⟨_, _, _, e1, by decide, by decide, by decide, by simp [plainV]⟩
  · intro j hj hn
    rw [Below.heap_setCell _ _ _ _ (fun e => hn (.inl e))]
    exact hk j (fun e => hn (.inl e)) (fun e => hn (.inr e))
/-- the memory of Add behind its box and its result. -/
theorem add_boxes (l : Nat) (w w1 : World) (h : (w.alloc (.cells #[.pointer (some ⟨l, 0, none⟩)] 27)).alloc (.cells #[.int .i64 0] 30) = w1) :
    w1.heap[w.heap.size]? = some (.cells #[.pointer (some ⟨l, 0, none⟩)] 27 (0, 0)) ∧ w1.heap[w.heap.size + 1]? = some (.cells #[.int .i64 0] 30 (0, 0)) ∧ Below w.heap.size w w1 ∧ w1.heap.size = w.heap.size + 2 := by
  subst h
  refine ⟨?_, ?_, ((Below.refl _ _).alloc (Nat.le_refl _) _).alloc (by simp) _, by simp⟩
  · rw [Below.heap_alloc _ _ _ (by simp)]
    exact heap_alloc_new _ _
  · have := heap_alloc_new (w.alloc (.cells #[.pointer (some ⟨l, 0, none⟩)] 27)) (.cells #[.int .i64 0] 30)
    simpa using this
theorem add_three (N F l : Nat) (v : Value) (w2 w3 : World) (hF : F = w2.heap.size) (x0 : w2.heap[N]? = some (.cells #[.pointer (some ⟨l, 0, none⟩)] 27 (0, 0))) (x1 : w2.heap[N + 1]? = some (.cells #[.int .i64 0] 30 (0, 0)))
    (h : (w2.setCell ⟨N + 1, 0, none⟩ v).alloc (.cells #[.bool false] 4) = w3) :
    w3.heap[N]? = some (.cells #[.pointer (some ⟨l, 0, none⟩)] 27 (0, 0)) ∧ w3.heap[N + 1]? = some (.cells #[v] 30 (0, 0)) ∧ w3.heap[F]? = some (.cells #[.bool false] 4 (0, 0)) ∧ Below (N + 1) w2 w3 ∧
      (∀ j off u, w2.cell? ⟨j, off, none⟩ = some (.int .u8 u) → w3.heap[j]? = w2.heap[j]?) := by
  have hb : Below w2.heap.size (w2.setCell ⟨N + 1, 0, none⟩ v) w3 := by rw [← h]; exact (Below.refl _ _).alloc (by simp) _
  have h1 : N + 1 < w2.heap.size := heap_lt x1
  refine ⟨(hb.block N (by omega)).trans ((Below.heap_setCell _ _ _ _ (by dsimp only; omega)).trans x0), (hb.block (N + 1) h1).trans (heap_setCell_same w2 (N + 1) 0 _ _ v x1), ?_, ?_, ?_⟩
  · rw [← h, hF]
    have := heap_alloc_new (w2.setCell ⟨N + 1, 0, none⟩ v) (.cells #[.bool false] 4)
    simpa using this
  · exact ((Below.refl (N + 1) w2).setCell (p := ⟨N + 1, 0, none⟩) (Nat.le_refl _) v).trans (hb.mono (by omega))
  · intro j off u hc
    rw [hb.block j (block_lt_of_cell hc)]
    refine Below.heap_setCell _ _ _ _ ?_
    rintro rfl
    simp only [World.cell?, x1] at hc
    match off with
    | 0 => simp at hc
    | k + 1 => simp at hc
theorem LedRow.later {w w' : World} {l d : Nat} {n sz : Int} {br : Bool} (h : LedRow w l d n sz br) (hb : Below w.heap.size w w') : LedRow w' l d n sz br := (hb.block l (heap_lt h)).trans h
set_option maxRecDepth 100000 in
set_option maxHeartbeats 2000000 in
theorem Add_any (base d mb f l : Nat) (n sz : Int) (S : List UInt8) (ao : Option Addr) (m cap : Nat) (B : List UInt8) (w : World) (hbs : base ≤ w.heap.size) (hfu : fu ≠ 0) (hfu2 : dec fu ≠ 0) (hl : LedRow w l d n sz false) (hd : DiskOwn w fu d mb f base S []) (hB : IsBytes w ao m cap B)
    (hn0 : 0 ≤ n) (hn1 : n ≤ 1000000) (hz0 : 0 ≤ sz) (hz1 : sz ≤ 2000000) (hm : m ≤ 65536) (hS : S.length + m + 12 ≤ 1048576) :
    Calls Try.prog 11 #[.pointer (some ⟨l, 0, none⟩), .slice ao m cap] w fun e w' => e = .returned (.int .i64 0) ∧ LedRow w' l d (n + 1) (sz + (m + 12 : Nat)) false ∧ DiskOwn w' (dec (dec fu)) d mb f base (S ++ Fr.putF B) [] ∧ MovedL d mb f l base w w' := by
  have hmf : ∀ (fn : Fn) (first cap : Array Value) (w : World), (Instr.makeFunc fn first cap).run Try.prog w = .ok (.func fn first cap) w := fun _ _ _ _ => rfl
  have HL := Lib.hid hl
  have HD := Lib.hid hd
  have HB := Lib.hid hB
  have HS := Lib.hid hS
  have HFU := Lib.hid (And.intro hfu hfu2)
  clear hl hd hB hS hfu hfu2
  go_enter_defers Try.func11, Try.ntmps11
  go_wp2_with fail
  generalize hw1 : (w.alloc (.cells #[.pointer (some ⟨l, 0, none⟩)] 27)).alloc (.cells #[.int .i64 0] 30) = w1
  obtain ⟨b0, b1, hB1, hS1⟩ := add_boxes l w w1 hw1
  clear hw1
  generalize hN : w.heap.size = N at b0 b1 hS1 hbs ⊢
  have hl1 := HL.out.later hB1
  obtain ⟨l0, l1, l2, l3, l4⟩ := hl1.cells
  have c0 : w1.cell? ⟨N, 0, none⟩ = some (.pointer (some ⟨l, 0, none⟩)) := cell_of_row _ _ _ _ _ _ b0
  have HL1 := Lib.hid hl1
  have HBX := Lib.hid (And.intro b0 b1)
  have HBL := Lib.hid hB1
  clear hl1 b0 b1 hB1 l0 l1 l2 l3
  refine (lnone_any l d n sz false w1 HL1.out).mono ?_
  rintro e w' ⟨rfl, rfl⟩
  go_wp2_with fail
  refine (Put_any ao m cap B w1 (HB.out.later HBL.out) hm).mono ?_
  rintro e w2 ⟨v, rfl, hown, hb2⟩
  have x0 : w2.heap[N]? = _ := (hb2.block N (by omega)).trans HBX.out.1
  have x1 : w2.heap[N + 1]? = _ := (hb2.block (N + 1) (by omega)).trans HBX.out.2
  have c1 : w2.cell? ⟨N + 1, 0, none⟩ = some (.int .i64 0) := cell_of_row _ _ _ _ _ _ x1
  have z1 : w2.frozen? ⟨N + 1, 0, none⟩ = false := frozen_of_row _ _ _ _ _ x1
  obtain ⟨va, vc, hv, hvb, _⟩ := hown.bytes
  obtain ⟨K, hK⟩ : ∃ K, K = (Fr.putF B).length := ⟨_, rfl⟩
  rw [← hK] at hv hvb
  subst hv
  have HVB := Lib.hid hvb
  have HKK := Lib.hid hK
  have HX := Lib.hid (And.intro x0 x1)
  have HB2 := Lib.hid hb2
  clear x0 x1 hown hb2 hvb hK
  go_wp2_with fail
  obtain ⟨F, hF⟩ : ∃ F, F = w2.heap.size := ⟨_, rfl⟩
  rw [← hF]
  generalize hw3 : ((w2.setCell ⟨N + 1, 0, none⟩ (.int .i64 0)).alloc (.cells #[.bool false] 4) : World) = w3
  obtain ⟨y0, y1, yF, hb3, hK3⟩ := add_three N F l (.int .i64 0) w2 w3 hF HX.out.1 HX.out.2 hw3
  have hbw : Below w.heap.size w w3 := HBL.out.trans (by rw [hN]; exact ((HB2.out.mono (by omega)).trans (hb3.mono (by omega))))
  have hl3 := HL.out.later hbw
  have hd3 := HD.out.later hbw
  have hv3 : IsBytes w3 va K vc (Fr.putF B) := HVB.out.moved hK3
  have hbs3 : base ≤ w3.heap.size := Nat.le_trans (by omega) hbw.size
  have hKm : K = m + 12 := by rw [HKK.out, putF_length, HB.out.1]
  have HW3 := Lib.hid (And.intro y0 (And.intro y1 (And.intro yF (And.intro hbw (And.intro hl3 (And.intro hd3 (And.intro hv3 (And.intro hbs3 hKm))))))))
  have k0 : w3.cell? ⟨N, 0, none⟩ = some (.pointer (some ⟨l, 0, none⟩)) := cell_of_row _ _ _ _ _ _ y0
  obtain ⟨k1, k2, _, _, _⟩ := hl3.cells
  clear y0 y1 yF hbw hl3 hd3 hv3 hbs3 hKm hb3 hK3 c1 z1 hw3 hF
  go_region_held3 (fun w' => w'.cell? ⟨N, 0, none⟩ = some (.pointer (some ⟨l, 0, none⟩)) ∧ w'.cell? ⟨l, 0, none⟩ = some (.pointer (some ⟨d, 0, none⟩)) ∧ w'.cell? ⟨l, 1, none⟩ = some (.string logB))
    (first
      | (exact ⟨k0, k1, k2⟩)
      | (exact ⟨q0, q1, q2⟩))
    (first
      | (go_at_call 14
         refine (Append_log base d mb f S [] va K vc (Fr.putF B) w3.drew HW3.out.2.2.2.2.2.2.2.1 HFU.out.1 (HW3.out.2.2.2.2.2.1.later (Below.refl _ _).drew) (HW3.out.2.2.2.2.2.2.1.later (Below.refl _ _).drew) (by have h1 := HW3.out.2.2.2.2.2.2.2.2; have h2 := HS.out; rw [allB_nil]; omega) (by simp) (by have h1 := HKK.out; have h2 := HW3.out.2.2.2.2.2.2.2.2; have h3 := HS.out; simp [Deed.units]; omega)).mono ?_
         rintro e w4 ⟨rfl, hd4, hmv4⟩
         have hmw4 := Moved.trans (Moved.of_below (d := d) (mb := mb) (f := f) (base := base) (Below.refl _ w3).drew) hmv4
         have hl4 : LedRow w4 l d n sz false := hmw4.cells HW3.out.2.2.2.2.2.1.log HW3.out.2.2.2.2.1 (by decide) (by decide) (by decide)
         have q0' := hmw4.cells HW3.out.2.2.2.2.2.1.log HW3.out.1 (by decide) (by decide) (by decide)
         have q0 : w4.cell? ⟨N, 0, none⟩ = some (.pointer (some ⟨l, 0, none⟩)) := cell_of_row _ _ _ _ _ _ q0'
         have q1 := hl4.cells.1
         have q2 := hl4.cells.2.1))
  all_goals
    go_split_ands
    go_wp2_with fail
    have qR := hmw4.cells HW3.out.2.2.2.2.2.1.log HW3.out.2.1 (by decide) (by decide) (by decide)
    have qF := hmw4.cells HW3.out.2.2.2.2.2.1.log HW3.out.2.2.1 (by decide) (by decide) (by decide)
    have HW4 := Lib.hid (And.intro q0' (And.intro qR (And.intro qF (And.intro hl4 (And.intro hd4 hmw4)))))
    clear q0' qR qF hl4 hd4 hmw4 hmv4
    go_region_held3 (fun w' => w'.cell? ⟨N, 0, none⟩ = some (.pointer (some ⟨l, 0, none⟩)) ∧ w'.cell? ⟨l, 0, none⟩ = some (.pointer (some ⟨d, 0, none⟩)) ∧ w'.cell? ⟨l, 1, none⟩ = some (.string logB))
      (first
        | (exact ⟨q0, q1, q2⟩)
        | (exact ⟨s0, s1, s2⟩))
      (first
        | (go_at_call 15
           refine (Sync_any base d mb f S (laid [] K (Fr.putF B)) w4.drew HFU.out.2 (HW4.out.2.2.2.2.1.log.later (Below.refl _ _).drew)).mono ?_
           rintro e w5 ⟨rfl, hd5, hmv5⟩
           have hmw5 := Moved.trans (Moved.of_below (d := d) (mb := mb) (f := f) (base := base) (Below.refl _ w4).drew) hmv5
           have hl5 : LedRow w5 l d n sz false := hmw5.cells HW4.out.2.2.2.2.1.log HW4.out.2.2.2.1 (by decide) (by decide) (by decide)
           have s0' := hmw5.cells HW4.out.2.2.2.2.1.log HW4.out.1 (by decide) (by decide) (by decide)
           have s0 : w5.cell? ⟨N, 0, none⟩ = some (.pointer (some ⟨l, 0, none⟩)) := cell_of_row _ _ _ _ _ _ s0'
           have s1 := hl5.cells.1
           have s2 := hl5.cells.2.1))
    all_goals
      go_split_ands
      have sR := hmw5.cells HW4.out.2.2.2.2.1.log HW4.out.2.1 (by decide) (by decide) (by decide)
      have sF := hmw5.cells HW4.out.2.2.2.2.1.log HW4.out.2.2.1 (by decide) (by decide) (by decide)
      have HW5 := Lib.hid (And.intro s0' (And.intro sR (And.intro sF (And.intro hl5 (And.intro hd5 hmw5)))))
      obtain ⟨_, _, r2, r3, r4⟩ := hl5.cells
      have t2 : w5.frozen? ⟨l, 2, none⟩ = false := frozen_of_row _ _ _ _ _ hl5
      have t3 : w5.frozen? ⟨l, 3, none⟩ = false := frozen_of_row _ _ _ _ _ hl5
      have cR : w5.cell? ⟨N + 1, 0, none⟩ = some (.int .i64 0) := cell_of_row _ _ _ _ _ _ sR
      have zR : w5.frozen? ⟨N + 1, 0, none⟩ = false := frozen_of_row _ _ _ _ _ sR
      have hwn : IntKind.i64.wrap (n + 1) = n + 1 := IntWalk.i64_in _ (by omega)
      have hwz : IntKind.i64.wrap (sz + (K : Int)) = sz + (K : Int) := IntWalk.i64_in _ (by have h1 := HW3.out.2.2.2.2.2.2.2.2; omega)
      clear sR sF hl5 hd5 hmw5 hmv5 s0'
      go_wp2_with fail
      generalize hw6 : (((w5.setCell ⟨l, 2, none⟩ (.int .i64 (n + 1))).setCell ⟨l, 3, none⟩ (.int .i64 (sz + (K : Int)))).setCell ⟨N + 1, 0, none⟩ (.int .i64 0) : World) = w6
      obtain ⟨hne, u1, uF, u0, u4, uz, hl6, hd6⟩ := add_end HW5.out.1 HW5.out.2.1 HW5.out.2.2.1 HW5.out.2.2.2.1 HW5.out.2.2.2.2.1 w6 hw6
      refine leaves_cons (f := 28) (args := #[.pointer (some ⟨N + 1, 0, none⟩), .pointer (some ⟨F, 0, none⟩), .pointer (some ⟨N, 0, none⟩)]) (by simp) (by simp [go_sem]) ?_
      refine (AddEnd_ok (N + 1) F N l false .returning w6 u1 uF u0 u4 uz).mono ?_
      rintro e u' w7 ⟨rfl, rfl, rfl⟩
      have hend : LedRow (w6.setCell ⟨l, 4, none⟩ (.bool false)) l d (n + 1) (sz + (m + 12 : Nat)) false ∧ DiskOwn (w6.setCell ⟨l, 4, none⟩ (.bool false)) (dec (dec fu)) d mb f base (S ++ Fr.putF B) [] ∧ MovedL d mb f l base w (w6.setCell ⟨l, 4, none⟩ (.bool false)) := by
        have hKe := HW3.out.2.2.2.2.2.2.2.2
        refine ⟨?_, ?_, ?_⟩
        · rw [hKe] at hl6; exact hl6
        · have e1 : allB S (laid [] K (Fr.putF B)) = S ++ Fr.putF B := by
            unfold laid
            rw [if_neg (by omega)]
            exact allB_one S _
          rw [e1] at hd6; exact hd6
        · rw [← hw6]
          refine (((MovedL.setCell (p := ⟨l, 2, none⟩) (MovedL.of (Moved.trans (Moved.of_below HW3.out.2.2.2.1) (Moved.trans HW4.out.2.2.2.2.2 HW5.out.2.2.2.2.2))) (.inl rfl) _).setCell (p := ⟨l, 3, none⟩) (.inl rfl) _).setCell (p := ⟨N + 1, 0, none⟩) (.inr (by dsimp only; omega)) _).setCell (p := ⟨l, 4, none⟩) (.inl rfl) _
      have u8 : (w6.setCell ⟨l, 4, none⟩ (.bool false)).cell? ⟨N + 1, 0, none⟩ = some (.int .i64 0) := by
        rw [World.cell?_of_block (w := w6) (Below.heap_setCell _ _ _ _ (by dsimp only; exact Ne.symm hne))]
        exact u1
      generalize w6.setCell ⟨l, 4, none⟩ (.bool false) = w7 at hend u8 ⊢
      have HEND := Lib.hid hend
      clear hend
      simp [Leaves, settle, results, Try.results11, go_sem, u8]
      exact HEND.out
end Go.Proofs.Ytdglaacjefcfdaa
