/- ledger: Add, outcome by outcome -/
import Derived.Test.YtgbpgmbnihfkkaaLOpen1
import Derived.Deep.RegionHeld3
set_option linter.unusedSimpArgs false
set_option linter.unusedVariables false
namespace Go.Proofs.Ytgbpgmbnihfkkaa
open Go.RowKit
set_option linter.unusedSectionVars false
theorem FD.new {base : Nat} {x : Option Nat} {w w1 : World} {p : Addr} {v : Value} (h : FD base x w w1) (hp : w.heap.size ≤ p.block) (hb : base ≤ w.heap.size) : FD base x w (w1.setCell p v) := by
  refine ⟨h.below.setCell (p := p) (by omega) v, fun j c t fr hj ht hx => ?_, fun j off u hc => ?_⟩
  · exact (Below.heap_setCell _ _ _ _ (by have := heap_lt hj; omega)).trans (h.cells j c t fr hj ht hx)
  · exact (Below.heap_setCell _ _ _ _ (by have h9 : j < w.heap.size := block_lt_of_cell hc; omega)).trans (h.u8 j off u hc)
theorem FD.at {base l off : Nat} {w w1 : World} {v : Value} {c : Array Value} {t : TypeId} {fr : Nat × Nat} (h : FD base (some l) w w1) (hl : w.heap[l]? = some (.cells c t fr)) (hp : ∀ u ∈ c.toList, plainV u = true) (hb : base ≤ l) : FD base (some l) w (w1.setCell ⟨l, off, none⟩ v) := by
  refine ⟨h.below.setCell (p := ⟨l, off, none⟩) hb v, fun j cs ty f hj ht hx => ?_, fun j o u hc => ?_⟩
  · exact (Below.heap_setCell _ _ _ _ (fun e => hx (by rw [e]))).trans (h.cells j cs ty f hj ht hx)
  · refine (Below.heap_setCell _ _ _ _ (fun e => ?_)).trans (h.u8 j o u hc)
    have e : j = l := e
    subst e
    exact not_u8_of hl hp hc
theorem LedRow.plain {w : World} {l d : Nat} {nm : ByteArray} {n sz : Int} {br : Bool} (_ : LedRow w l d nm n sz br) : ∀ u ∈ (#[.pointer (some ⟨d, 0, none⟩), .string nm, .int .i64 n, .int .i64 sz, .bool br] : Array Value).toList, plainV u = true := by simp [plainV]
theorem LedRow.later {w w' : World} {l d : Nat} {nm : ByteArray} {n sz : Int} {br : Bool} (h : LedRow w l d nm n sz br) (hb : Below w.heap.size w w') : LedRow w' l d nm n sz br := (hb.block l (heap_lt h)).trans h
theorem LedRow.fd {w w' : World} {base l d : Nat} {nm : ByteArray} {n sz : Int} {br : Bool} (h : LedRow w l d nm n sz br) (k : FD base none w w') : LedRow w' l d nm n sz br := k.cells _ _ _ _ h (by unfold TD; decide) (by simp)

/-- the memory of Add behind its box and its result. -/
theorem add_boxes (l : Nat) (w w1 : World) (h : (w.alloc (.cells #[.pointer (some ⟨l, 0, none⟩)] 24)).alloc (.cells #[.int .i64 0] 28) = w1) :
    w1.heap[w.heap.size]? = some (.cells #[.pointer (some ⟨l, 0, none⟩)] 24 (0, 0)) ∧ w1.heap[w.heap.size + 1]? = some (.cells #[.int .i64 0] 28 (0, 0)) ∧ Below w.heap.size w w1 ∧ w1.heap.size = w.heap.size + 2 := by
  subst h
  refine ⟨?_, ?_, ((Below.refl _ _).alloc (Nat.le_refl _) _).alloc (by simp) _, by simp⟩
  · rw [Below.heap_alloc _ _ _ (by simp)]
    exact heap_alloc_new _ _
  · have := heap_alloc_new (w.alloc (.cells #[.pointer (some ⟨l, 0, none⟩)] 24)) (.cells #[.int .i64 0] 28)
    simpa using this
theorem add_three (N F l : Nat) (v : Value) (w2 w3 : World) (hF : F = w2.heap.size) (x0 : w2.heap[N]? = some (.cells #[.pointer (some ⟨l, 0, none⟩)] 24 (0, 0))) (x1 : w2.heap[N + 1]? = some (.cells #[.int .i64 0] 28 (0, 0)))
    (h : (w2.setCell ⟨N + 1, 0, none⟩ v).alloc (.cells #[.bool false] 4) = w3) :
    w3.heap[N]? = some (.cells #[.pointer (some ⟨l, 0, none⟩)] 24 (0, 0)) ∧ w3.heap[N + 1]? = some (.cells #[v] 28 (0, 0)) ∧ w3.heap[F]? = some (.cells #[.bool false] 4 (0, 0)) ∧ Below (N + 1) w2 w3 ∧
      (∀ j off u, w2.cell? ⟨j, off, none⟩ = some (.int .u8 u) → w3.heap[j]? = w2.heap[j]?) := by
  have hb : Below w2.heap.size (w2.setCell ⟨N + 1, 0, none⟩ v) w3 := by rw [← h]; exact (Below.refl _ _).alloc (by simp) _
  have h1 : N + 1 < w2.heap.size := heap_lt x1
  refine ⟨(hb.block N (by omega)).trans ((Below.heap_setCell _ _ _ _ (by dsimp only; omega)).trans x0), (hb.block (N + 1) h1).trans (heap_setCell_same w2 (N + 1) 0 _ _ v x1), ?_, ?_, ?_⟩
  · rw [← h, hF]
    have := heap_alloc_new (w2.setCell ⟨N + 1, 0, none⟩ v) (.cells #[.bool false] 4)
    simpa using this
  · exact ((Below.refl (N + 1) w2).setCell (p := ⟨N + 1, 0, none⟩) (Nat.le_refl _) v).trans (hb.mono (by omega))
  · intro j off u hc
    rw [hb.block j (block_lt_of_cell hc)]
    refine Below.heap_setCell _ _ _ _ ?_
    rintro rfl
    simp only [World.cell?, x1] at hc
    match off with
    | 0 => simp at hc
    | k + 1 => simp at hc

/-- what Add tells. -/
def AddR [Zone] (o : Int × LSig × Sig) (d mb base l : Nat) (w : World) (e : Ending) (w' : World) : Prop :=
  e = .returned (.int .i64 o.1) ∧ DSig w' d mb base o.2.2 ∧ LedRow w' l d o.2.1.nm o.2.1.n o.2.1.size o.2.1.br ∧ FD base (some l) w w'
/-- the memory at Add's end. -/
structure FinM [Zone] (w w6 : World) (d mb base l N F : Nat) (nm : ByteArray) (n z c : Int) (b0 : Bool) (g : Sig) : Prop where
  ds : DSig w6 d mb base g
  row : LedRow w6 l d nm n z false
  hF : w6.heap[F]? = some (.cells #[.bool b0] 4 (0, 0))
  hR : w6.heap[N + 1]? = some (.cells #[.int .i64 c] 28 (0, 0))
  hN : w6.heap[N]? = some (.cells #[.pointer (some ⟨l, 0, none⟩)] 24 (0, 0))
  fd : FD base (some l) w w6
theorem FinM.ne [Zone] {w w6 : World} {d mb base l N F : Nat} {nm : ByteArray} {n z c : Int} {b0 : Bool} {g : Sig} (h : FinM w w6 d mb base l N F nm n z c b0 g) : l ≠ N + 1 ∧ l ≠ F ∧ l ≠ N ∧ F ≠ N + 1 ∧ F ≠ N := by
  have hl := h.row
  have eF := h.hF
  have e1 := h.hR
  have e0 := h.hN
  unfold LedRow at hl
  refine ⟨?_, ?_, ?_, ?_, ?_⟩
  · rintro rfl; rw [hl] at e1; cases e1
  · rintro rfl; rw [hl] at eF; cases eF
  · rintro rfl; rw [hl] at e0; cases e0
  · rintro rfl; rw [eF] at e1; cases e1
  · rintro rfl; rw [eF] at e0; cases e0
theorem FinM.setR [Zone] {w w6 : World} {d mb base l N F : Nat} {nm : ByteArray} {n z c c' : Int} {b0 : Bool} {g : Sig} (h : FinM w w6 d mb base l N F nm n z c b0 g) (hN : w.heap.size ≤ N) (hb : base ≤ w.heap.size) : FinM w (w6.setCell ⟨N + 1, 0, none⟩ (.int .i64 c')) d mb base l N F nm n z c' b0 g := by
  obtain ⟨n1, n2, n3, n4, n5⟩ := h.ne
  exact ⟨DSig.fd (base2 := base) h.ds h.hR (by simp [plainV]) (by unfold TD; decide) (by omega), (Below.heap_setCell _ _ _ _ n1).trans h.row, (Below.heap_setCell _ _ _ _ n4).trans h.hF, heap_setCell_same _ (N + 1) 0 _ _ (.int .i64 c') h.hR, (Below.heap_setCell _ _ _ _ (by dsimp only; omega)).trans h.hN, FD.new h.fd (by dsimp only; omega) hb⟩
theorem FinM.setF [Zone] {w w6 : World} {d mb base l N F : Nat} {nm : ByteArray} {n z c : Int} {b0 b1 : Bool} {g : Sig} (h : FinM w w6 d mb base l N F nm n z c b0 g) (hF : w.heap.size ≤ F) (hb : base ≤ w.heap.size) : FinM w (w6.setCell ⟨F, 0, none⟩ (.bool b1)) d mb base l N F nm n z c b1 g := by
  obtain ⟨n1, n2, n3, n4, n5⟩ := h.ne
  exact ⟨DSig.fd (base2 := base) h.ds h.hF (by simp [plainV]) (by unfold TD; decide) (by omega), (Below.heap_setCell _ _ _ _ n2).trans h.row, heap_setCell_same _ F 0 _ _ (.bool b1) h.hF, (Below.heap_setCell _ _ _ _ (Ne.symm n4)).trans h.hR, (Below.heap_setCell _ _ _ _ (Ne.symm n5)).trans h.hN, FD.new h.fd hF hb⟩
theorem FinM.set2 [Zone] {w w6 : World} {d mb base l N F : Nat} {nm : ByteArray} {n z c n' : Int} {b0 br : Bool} {g : Sig} {nm' : ByteArray} {n9 z9 : Int} (h : FinM w w6 d mb base l N F nm n z c b0 g) (hl : LedRow w l d nm' n9 z9 br) (hb : base ≤ l) : FinM w (w6.setCell ⟨l, 2, none⟩ (.int .i64 n')) d mb base l N F nm n' z c b0 g := by
  obtain ⟨n1, n2, n3, n4, n5⟩ := h.ne
  exact ⟨DSig.fd (base2 := base) h.ds h.row (by simp [plainV]) (by unfold TD; decide) hb, heap_setCell_same _ l 2 _ _ (.int .i64 n') h.row, (Below.heap_setCell _ _ _ _ (Ne.symm n2)).trans h.hF, (Below.heap_setCell _ _ _ _ (Ne.symm n1)).trans h.hR, (Below.heap_setCell _ _ _ _ (Ne.symm n3)).trans h.hN, FD.at h.fd hl hl.plain hb⟩
theorem FinM.set3 [Zone] {w w6 : World} {d mb base l N F : Nat} {nm : ByteArray} {n z c z' : Int} {b0 br : Bool} {g : Sig} {nm' : ByteArray} {n9 z9 : Int} (h : FinM w w6 d mb base l N F nm n z c b0 g) (hl : LedRow w l d nm' n9 z9 br) (hb : base ≤ l) : FinM w (w6.setCell ⟨l, 3, none⟩ (.int .i64 z')) d mb base l N F nm n z' c b0 g := by
  obtain ⟨n1, n2, n3, n4, n5⟩ := h.ne
  exact ⟨DSig.fd (base2 := base) h.ds h.row (by simp [plainV]) (by unfold TD; decide) hb, heap_setCell_same _ l 3 _ _ (.int .i64 z') h.row, (Below.heap_setCell _ _ _ _ (Ne.symm n2)).trans h.hF, (Below.heap_setCell _ _ _ _ (Ne.symm n1)).trans h.hR, (Below.heap_setCell _ _ _ _ (Ne.symm n3)).trans h.hN, FD.at h.fd hl hl.plain hb⟩
theorem FinM.fin [Zone] {w w6 : World} {d mb base l N F : Nat} {nm : ByteArray} {n z c : Int} {b0 br b : Bool} {g : Sig} {nm' : ByteArray} {n9 z9 : Int} (h : FinM w w6 d mb base l N F nm n z c b0 g) (hl : LedRow w l d nm' n9 z9 br) (hb : base ≤ l) :
    w6.cell? ⟨N + 1, 0, none⟩ = some (.int .i64 c) ∧ w6.cell? ⟨F, 0, none⟩ = some (.bool b0) ∧ w6.cell? ⟨N, 0, none⟩ = some (.pointer (some ⟨l, 0, none⟩)) ∧ w6.cell? ⟨l, 4, none⟩ = some (.bool false) ∧ w6.frozen? ⟨l, 4, none⟩ = false ∧
      (w6.setCell ⟨l, 4, none⟩ (.bool b)).cell? ⟨N + 1, 0, none⟩ = some (.int .i64 c) ∧ DSig (w6.setCell ⟨l, 4, none⟩ (.bool b)) d mb base g ∧ LedRow (w6.setCell ⟨l, 4, none⟩ (.bool b)) l d nm n z b ∧ FD base (some l) w (w6.setCell ⟨l, 4, none⟩ (.bool b)) := by
  obtain ⟨n1, n2, n3, n4, n5⟩ := h.ne
  exact ⟨cell_of_row _ _ _ _ _ _ h.hR, cell_of_row _ _ _ _ _ _ h.hF, cell_of_row _ _ _ _ _ _ h.hN, cell_of_row _ _ _ _ _ _ h.row, frozen_of_row _ _ _ _ _ h.row, cell_of_row _ _ _ _ _ _ ((Below.heap_setCell w6 ⟨l, 4, none⟩ (.bool b) (N + 1) (Ne.symm n1)).trans h.hR), DSig.fd (base2 := base) h.ds h.row (by simp [plainV]) (by unfold TD; decide) hb, heap_setCell_same w6 l 4 _ _ (.bool b) h.row, FD.at h.fd hl hl.plain hb⟩
set_option maxRecDepth 100000 in
theorem Add_br [Zone] (base d mb l : Nat) (L : LSig) (g : Sig) (ao : Option Addr) (m cap : Nat) (B : List UInt8) (w : World) (hbs : base ≤ w.heap.size) (hl : LedRow w l d L.nm L.n L.size L.br) (hd : DSig w d mb base g) (hbr : L.br = true) :
    Calls Try.prog 6 #[.pointer (some ⟨l, 0, none⟩), .slice ao m cap] w fun e w' => AddR (addG B L g) d mb base l w e w' := by
  have hmf : ∀ (fn : Fn) (first cap : Array Value) (w : World), (Instr.makeFunc fn first cap).run Try.prog w = .ok (.func fn first cap) w := fun _ _ _ _ => rfl
  unfold addG
  rw [if_pos hbr]
  have HL := Lib.hid hl
  rw [hbr] at hl
  have HD := Lib.hid hd
  have HB := Lib.hid hbs
  have HBR := Lib.hid hbr
  clear hd hbs hbr
  go_enter_defers Try.func6, Try.ntmps6
  go_wp2_with fail
  generalize hw1 : (w.alloc (.cells #[.pointer (some ⟨l, 0, none⟩)] 24)).alloc (.cells #[.int .i64 0] 28) = w1
  obtain ⟨b0, b1, hB1, hS1⟩ := add_boxes l w w1 hw1
  clear hw1
  have hl1 := hl.later hB1
  obtain ⟨N, hN⟩ : ∃ N, N = w.heap.size := ⟨_, rfl⟩
  rw [← hN] at b0 b1 hS1 ⊢
  obtain ⟨l0, l1, l2, l3, l4⟩ := hl1.cells
  have c0 : w1.cell? ⟨N, 0, none⟩ = some (.pointer (some ⟨l, 0, none⟩)) := cell_of_row _ _ _ _ _ _ b0
  have c1 : w1.cell? ⟨N + 1, 0, none⟩ = some (.int .i64 0) := cell_of_row _ _ _ _ _ _ b1
  have z1 : w1.frozen? ⟨N + 1, 0, none⟩ = false := frozen_of_row _ _ _ _ _ b1
  have HL1 := Lib.hid hl1
  have HBX := Lib.hid (And.intro b0 (And.intro b1 (And.intro hB1 hN)))
  clear hl1 hl b0 b1 hB1 hN l0 l1 l2 l3
  refine (lnone_any l d _ _ _ _ w1 HL1.out).mono ?_
  rintro e w' ⟨rfl, rfl⟩
  go_wp2_with fail
  have hb1 := HBX.out.2.2.1
  have hn := HBX.out.2.2.2
  have hR := heap_setCell_same w1 (N + 1) 0 _ _ (.int .i64 9) HBX.out.2.1
  have u8 : (w1.setCell ⟨N + 1, 0, none⟩ (.int .i64 9)).cell? ⟨N + 1, 0, none⟩ = some (.int .i64 9) := cell_of_row _ _ _ _ _ _ hR
  have hend : AddR (9, L, g) d mb base l w (.returned (.int .i64 9)) (w1.setCell ⟨N + 1, 0, none⟩ (.int .i64 9)) := by
    have hne : l ≠ N + 1 := by rintro rfl; have := heap_lt HL.out; omega
    exact ⟨rfl, DSig.fd (base2 := base) (HD.out.later hb1) HBX.out.2.1 (by simp [plainV]) (by unfold TD; decide) (by have := HB.out; omega), (Below.heap_setCell _ _ _ _ hne).trans (HL.out.later hb1), FD.new (FD.of_below hb1 HB.out) (by dsimp only; omega) HB.out⟩
  generalize w1.setCell ⟨N + 1, 0, none⟩ (.int .i64 9) = w7 at hend u8 ⊢
  have HEND := Lib.hid hend
  clear hend hR
  first
    | (simp [bodyPostD, Leaves, settle, results, Try.results6, go_sem, u8]; exact HEND.out)
    | (go_ret; exact HEND.out)
set_option maxRecDepth 100000 in
theorem Add_long [Zone] (base d mb l : Nat) (L : LSig) (g : Sig) (ao : Option Addr) (m cap : Nat) (B : List UInt8) (w : World) (hbs : base ≤ w.heap.size) (hl : LedRow w l d L.nm L.n L.size L.br) (hd : DSig w d mb base g) (hbr : L.br = false) (hBl : B.length = m) (hm : 65536 < m) (hm2 : m ≤ 9223372036854775807) :
    Calls Try.prog 6 #[.pointer (some ⟨l, 0, none⟩), .slice ao m cap] w fun e w' => AddR (addG B L g) d mb base l w e w' := by
  have hmf : ∀ (fn : Fn) (first cap : Array Value) (w : World), (Instr.makeFunc fn first cap).run Try.prog w = .ok (.func fn first cap) w := fun _ _ _ _ => rfl
  unfold addG
  rw [if_neg (by rw [hbr]; simp), if_pos (by omega)]
  have HL := Lib.hid hl
  rw [hbr] at hl
  have HD := Lib.hid hd
  have HB := Lib.hid hbs
  have HBR := Lib.hid hbr
  clear hd hbs hbr
  go_enter_defers Try.func6, Try.ntmps6
  go_wp2_with fail
  generalize hw1 : (w.alloc (.cells #[.pointer (some ⟨l, 0, none⟩)] 24)).alloc (.cells #[.int .i64 0] 28) = w1
  obtain ⟨b0, b1, hB1, hS1⟩ := add_boxes l w w1 hw1
  clear hw1
  have hl1 := hl.later hB1
  obtain ⟨N, hN⟩ : ∃ N, N = w.heap.size := ⟨_, rfl⟩
  rw [← hN] at b0 b1 hS1 ⊢
  obtain ⟨l0, l1, l2, l3, l4⟩ := hl1.cells
  have c0 : w1.cell? ⟨N, 0, none⟩ = some (.pointer (some ⟨l, 0, none⟩)) := cell_of_row _ _ _ _ _ _ b0
  have c1 : w1.cell? ⟨N + 1, 0, none⟩ = some (.int .i64 0) := cell_of_row _ _ _ _ _ _ b1
  have z1 : w1.frozen? ⟨N + 1, 0, none⟩ = false := frozen_of_row _ _ _ _ _ b1
  have HL1 := Lib.hid hl1
  have HBX := Lib.hid (And.intro b0 (And.intro b1 (And.intro hB1 hN)))
  clear hl1 hl b0 b1 hB1 hN l0 l1 l2 l3
  refine (lnone_any l d _ _ _ _ w1 HL1.out).mono ?_
  rintro e w' ⟨rfl, rfl⟩
  go_wp2_with fail
  refine (Put_long ao m cap w1 hm hm2).mono ?_
  rintro e w' ⟨rfl, rfl⟩
  go_wp2_with fail
  have hb1 := HBX.out.2.2.1
  have hn := HBX.out.2.2.2
  have hR := heap_setCell_same w1 (N + 1) 0 _ _ (.int .i64 3) HBX.out.2.1
  have hR2 := heap_setCell_same _ (N + 1) 0 _ _ (.int .i64 3) hR
  have u8 : ((w1.setCell ⟨N + 1, 0, none⟩ (.int .i64 3)).setCell ⟨N + 1, 0, none⟩ (.int .i64 3)).cell? ⟨N + 1, 0, none⟩ = some (.int .i64 3) := cell_of_row _ _ _ _ _ _ hR2
  have hend : AddR (3, L, g) d mb base l w (.returned (.int .i64 3)) ((w1.setCell ⟨N + 1, 0, none⟩ (.int .i64 3)).setCell ⟨N + 1, 0, none⟩ (.int .i64 3)) := by
    have hne : l ≠ N + 1 := by rintro rfl; have := heap_lt HL.out; omega
    have d1 := DSig.fd (off := 0) (v := .int .i64 3) (base2 := base) (HD.out.later hb1) HBX.out.2.1 (by simp [plainV]) (by unfold TD; decide) (by have := HB.out; omega)
    exact ⟨rfl, DSig.fd (base2 := base) d1 hR (by simp [plainV]) (by unfold TD; decide) (by have := HB.out; omega), (Below.heap_setCell _ _ _ _ hne).trans ((Below.heap_setCell _ _ _ _ hne).trans (HL.out.later hb1)), FD.new (FD.new (FD.of_below hb1 HB.out) (by dsimp only; omega) HB.out) (by dsimp only; omega) HB.out⟩
  generalize (w1.setCell ⟨N + 1, 0, none⟩ (.int .i64 3)).setCell ⟨N + 1, 0, none⟩ (.int .i64 3) = w7 at hend u8 ⊢
  have HEND := Lib.hid hend
  clear hend hR hR2
  first
    | (simp [bodyPostD, Leaves, settle, results, Try.results6, go_sem, u8]; exact HEND.out)
    | (go_ret; exact HEND.out)

set_option maxRecDepth 100000 in
set_option maxHeartbeats 2000000 in
theorem Add_full [Zone] (base d mb l q k : Nat) (L : LSig) (g g1 g2 : Sig) (c1 c2 : Int) (ao : Option Addr) (m cap : Nat) (B : List UInt8) (w : World) (hss : L.nm.size ≤ 1099511627776) (hbs : base ≤ w.heap.size) (hbl : base ≤ l) (hl : LedRow w l d L.nm L.n L.size L.br) (hd : DSig w d mb base g) (hB : IsBytes w ao m cap B) (hbr : L.br = false)
    (hlim : Lim q k g) (hLl : LLim q L) (hq : q + m + 13 ≤ 4294967296) (hk : k + 2 ≤ 1000000) (hm : m ≤ 65536) (h1 : appG L.nm (Fr.putF B) g = (c1, g1)) (h2 : syncG L.nm g1 = (c2, g2)) (hc1 : c1 = 3) :
    Calls Try.prog 6 #[.pointer (some ⟨l, 0, none⟩), .slice ao m cap] w fun e w' => AddR (addG B L g) d mb base l w e w' := by
  have hmf : ∀ (fn : Fn) (first cap : Array Value) (w : World), (Instr.makeFunc fn first cap).run Try.prog w = .ok (.func fn first cap) w := fun _ _ _ _ => rfl
  have hBl := hB.1
  have HO := Lib.hid (show addG B L g = (8, L, g1) from by unfold addG; rw [if_neg (by rw [hbr]; simp), if_neg (by omega), h1, if_pos hc1])
  have hn0 := hLl.n0
  have hn1 := hLl.n1
  have hz0 := hLl.s0
  have hz1 := hLl.s1
  have hl1 : Lim (q + m + 12) (k + 1) g1 := by have := hlim.app (s := L.nm) (B := Fr.putF B) (q' := q + m + 12) (k' := k + 1) (by rw [putF_len]; omega) (Nat.le_refl _); rw [h1] at this; exact this
  have HAP := Lib.hid (fun (va : Option Addr) (K vc : Nat) (w' : World) (hb : base ≤ w'.heap.size) (hd' : DSig w' d mb base g) (hv : IsBytes w' va K vc (Fr.putF B)) => Append_S L.nm hss d mb base q k g va K vc (Fr.putF B) w' hb hd' hlim (by rw [putF_len]; omega) (by omega) hv)
  have HSY := Lib.hid (fun (w' : World) (hb : base ≤ w'.heap.size) (hd' : DSig w' d mb base g1) => Sync_S L.nm d mb base (q + m + 12) (k + 1) g1 w' hb hd' hl1 (by omega))
  rw [h1] at HAP
  rw [h2] at HSY
  obtain ⟨nm, n, sz, br⟩ := L
  dsimp only at hl hbr hn0 hn1 hz0 hz1 HAP HSY HO
  subst hbr
  have HL := Lib.hid hl
  have HD := Lib.hid hd
  have HB := Lib.hid hB
  have HS := Lib.hid (And.intro hbs (And.intro hbl hBl))
  have HLE : Hid (n + 1 ≤ 4294967296 ∧ sz + m + 12 ≤ 8589934592) := Lib.hid (by omega)
  clear hl hd hB hlim hLl hl1 h1 h2 hss hBl hk hbl
  go_enter_defers Try.func6, Try.ntmps6
  go_wp2_with fail
  generalize hw1 : (w.alloc (.cells #[.pointer (some ⟨l, 0, none⟩)] 24)).alloc (.cells #[.int .i64 0] 28) = w1
  obtain ⟨b0, b1, hB1, hS1⟩ := add_boxes l w w1 hw1
  clear hw1
  generalize hN : w.heap.size = N at b0 b1 hS1 hbs ⊢
  have hl1 := HL.out.later hB1
  obtain ⟨l0, l1, l2, l3, l4⟩ := hl1.cells
  have c0 : w1.cell? ⟨N, 0, none⟩ = some (.pointer (some ⟨l, 0, none⟩)) := cell_of_row _ _ _ _ _ _ b0
  have HL1 := Lib.hid hl1
  have HBX := Lib.hid (And.intro b0 (And.intro b1 hN))
  have HBL := Lib.hid hB1
  clear hl1 b0 b1 hB1 l0 l1 l2 l3 hN
  refine (lnone_any l d nm n sz false w1 HL1.out).mono ?_
  rintro e w' ⟨rfl, rfl⟩
  go_wp2_with fail
  refine (Put_any ao m cap B w1 (HB.out.later HBL.out) hm).mono ?_
  rintro e w2 ⟨v, rfl, hown, hb2⟩
  have x0 : w2.heap[N]? = _ := (hb2.block N (by omega)).trans HBX.out.1
  have x1 : w2.heap[N + 1]? = _ := (hb2.block (N + 1) (by omega)).trans HBX.out.2.1
  have d1 : w2.cell? ⟨N + 1, 0, none⟩ = some (.int .i64 0) := cell_of_row _ _ _ _ _ _ x1
  have z1 : w2.frozen? ⟨N + 1, 0, none⟩ = false := frozen_of_row _ _ _ _ _ x1
  obtain ⟨va, vc, hv, hvb, _⟩ := hown.bytes
  obtain ⟨K, hK⟩ : ∃ K, K = (Fr.putF B).length := ⟨_, rfl⟩
  rw [← hK] at hv hvb
  subst hv
  have HVB := Lib.hid hvb
  have HKK := Lib.hid hK
  have HX := Lib.hid (And.intro x0 x1)
  have HB2 := Lib.hid hb2
  clear x0 x1 hown hb2 hvb hK
  go_wp2_with fail
  obtain ⟨F, hF⟩ : ∃ F, F = w2.heap.size := ⟨_, rfl⟩
  rw [← hF]
  generalize hw3 : ((w2.setCell ⟨N + 1, 0, none⟩ (.int .i64 0)).alloc (.cells #[.bool false] 4) : World) = w3
  obtain ⟨y0, y1, yF, hb3, hK3⟩ := add_three N F l (.int .i64 0) w2 w3 hF HX.out.1 HX.out.2 hw3
  have hN := HBX.out.2.2
  have hbw : Below w.heap.size w w3 := HBL.out.trans (by rw [hN]; exact ((HB2.out.mono (by omega)).trans (hb3.mono (by omega))))
  have hFw : w.heap.size ≤ F := by have := HB2.out.size; omega
  have hl3 := HL.out.later hbw
  have hd3 := HD.out.later hbw
  have hv3 : IsBytes w3 va K vc (Fr.putF B) := HVB.out.moved hK3
  have hbs3 : base ≤ w3.heap.size := Nat.le_trans HS.out.1 hbw.size
  have hKm : K = m + 12 := by rw [HKK.out, putF_len, HS.out.2.2]
  have HW3 := Lib.hid (And.intro y0 (And.intro y1 (And.intro yF (And.intro hbw (And.intro hl3 (And.intro hd3 (And.intro hv3 (And.intro hbs3 (And.intro hKm hFw)))))))))
  have k0 : w3.cell? ⟨N, 0, none⟩ = some (.pointer (some ⟨l, 0, none⟩)) := cell_of_row _ _ _ _ _ _ y0
  obtain ⟨k1, k2, _, _, _⟩ := hl3.cells
  clear y0 y1 yF hbw hl3 hd3 hv3 hbs3 hKm hb3 hK3 d1 z1 hw3 hF hN hFw
  go_region_held3 (fun w' => w'.cell? ⟨N, 0, none⟩ = some (.pointer (some ⟨l, 0, none⟩)) ∧ w'.cell? ⟨l, 0, none⟩ = some (.pointer (some ⟨d, 0, none⟩)) ∧ w'.cell? ⟨l, 1, none⟩ = some (.string nm))
    (first
      | (exact ⟨k0, k1, k2⟩)
      | (exact ⟨q0, q1, q2⟩))
    (first
      | (go_at_call 10
         refine (HAP.out va K vc w3.drew HW3.out.2.2.2.2.2.2.2.1 (HW3.out.2.2.2.2.2.1.later (Below.refl _ _).drew) (HW3.out.2.2.2.2.2.2.1.later (Below.refl _ _).drew)).mono ?_
         rintro e w4 ⟨rfl, hd4, hk4⟩
         have hf4 : FD base none w w4 := (FD.of_below (HW3.out.2.2.2.1.trans (Below.refl _ w3).drew) HS.out.1).trans (FD.of_kept (HW3.out.2.2.2.2.2.1.later (Below.refl _ _).drew) hk4)
         have hfk4 : FD base none w3.drew w4 := FD.of_kept (HW3.out.2.2.2.2.2.1.later (Below.refl _ _).drew) hk4
         have hl4 : LedRow w4 l d nm n sz false := LedRow.fd (w := w3.drew) HW3.out.2.2.2.2.1 hfk4
         have q0' : w4.heap[N]? = some (.cells #[.pointer (some ⟨l, 0, none⟩)] 24 (0, 0)) := hfk4.cells _ _ _ _ HW3.out.1 (by unfold TD; decide) (by simp)
         have q0 : w4.cell? ⟨N, 0, none⟩ = some (.pointer (some ⟨l, 0, none⟩)) := cell_of_row _ _ _ _ _ _ q0'
         have q1 := hl4.cells.1
         have q2 := hl4.cells.2.1))
  all_goals
    go_split_ands
    have qR : w4.heap[N + 1]? = some (.cells #[.int .i64 0] 28 (0, 0)) := hfk4.cells _ _ _ _ HW3.out.2.1 (by unfold TD; decide) (by simp)
    have qF : w4.heap[F]? = some (.cells #[.bool false] 4 (0, 0)) := hfk4.cells _ _ _ _ HW3.out.2.2.1 (by unfold TD; decide) (by simp)
    have HW4 := Lib.hid (And.intro q0' (And.intro qR (And.intro qF (And.intro hl4 (And.intro hd4 hf4)))))
    have cR : w4.cell? ⟨N + 1, 0, none⟩ = some (.int .i64 0) := cell_of_row _ _ _ _ _ _ qR
    have zR : w4.frozen? ⟨N + 1, 0, none⟩ = false := frozen_of_row _ _ _ _ _ qR
    have cF : w4.cell? ⟨F, 0, none⟩ = some (.bool false) := cell_of_row _ _ _ _ _ _ qF
    have zF : w4.frozen? ⟨F, 0, none⟩ = false := frozen_of_row _ _ _ _ _ qF
    clear q0' qR qF hl4 hd4 hf4 hfk4 hk4
    subst hc1
    have hRF : (w4.setCell ⟨F, 0, none⟩ (.bool true)).heap[N + 1]? = some (.cells #[.int .i64 0] 28 (0, 0)) := (Below.heap_setCell _ _ _ _ (by rintro h9; have h9 : N + 1 = F := h9; have e1 := HW4.out.2.1; have e2 := HW4.out.2.2.1; rw [h9, e2] at e1; cases e1)).trans HW4.out.2.1
    have zRF : (w4.setCell ⟨F, 0, none⟩ (.bool true)).frozen? ⟨N + 1, 0, none⟩ = false := frozen_of_row _ _ _ _ _ hRF
    have cRF : (w4.setCell ⟨F, 0, none⟩ (.bool true)).cell? ⟨N + 1, 0, none⟩ = some (.int .i64 0) := cell_of_row _ _ _ _ _ _ hRF
    clear hRF
    go_wp2_with fail
    have hfin := (((⟨HW4.out.2.2.2.2.1, HW4.out.2.2.2.1, HW4.out.2.2.1, HW4.out.2.1, HW4.out.1, HW4.out.2.2.2.2.2.wide _⟩ : FinM w w4 d mb base l N F nm n sz 0 false g1)).setF (b1 := true) HW3.out.2.2.2.2.2.2.2.2.2 HS.out.1).setR (c' := 8) (by have := HBX.out.2.2; omega) HS.out.1
    generalize hw6 : ((w4.setCell ⟨F, 0, none⟩ (.bool true)).setCell ⟨N + 1, 0, none⟩ (.int .i64 8) : World) = w6 at hfin ⊢
    clear hw6
    obtain ⟨u1, uF, u0, u4, uz, u8, hd7, hl7, hf7⟩ := hfin.fin (b := false) HL.out HS.out.2.1
    refine leaves_cons (f := 17) (args := #[.pointer (some ⟨N + 1, 0, none⟩), .pointer (some ⟨F, 0, none⟩), .pointer (some ⟨N, 0, none⟩)]) (by simp) (by simp [go_sem]) ?_
    refine (AddEnd_full (N + 1) F N l .returning w6 u1 uF u0 u4 uz).mono ?_
    rintro e u' w7 ⟨rfl, rfl, rfl⟩
    have hend : AddR (addG B ⟨nm, n, sz, false⟩ g) d mb base l w (.returned (.int .i64 8)) (w6.setCell ⟨l, 4, none⟩ (.bool false)) := by
      rw [HO.out]
      exact ⟨rfl, hd7, hl7, hf7⟩
    generalize w6.setCell ⟨l, 4, none⟩ (.bool false) = w7 at hend u8 ⊢
    have HEND := Lib.hid hend
    clear hend hd7 hl7 hf7 hfin u1 uF u0 u4 uz
    simp [Leaves, settle, results, Try.results6, go_sem, u8]
    exact HEND.out
set_option maxRecDepth 100000 in
set_option maxHeartbeats 2000000 in
theorem Add_fail [Zone] (base d mb l q k : Nat) (L : LSig) (g g1 g2 : Sig) (c1 c2 : Int) (ao : Option Addr) (m cap : Nat) (B : List UInt8) (w : World) (hss : L.nm.size ≤ 1099511627776) (hbs : base ≤ w.heap.size) (hbl : base ≤ l) (hl : LedRow w l d L.nm L.n L.size L.br) (hd : DSig w d mb base g) (hB : IsBytes w ao m cap B) (hbr : L.br = false)
    (hlim : Lim q k g) (hLl : LLim q L) (hq : q + m + 13 ≤ 4294967296) (hk : k + 2 ≤ 1000000) (hm : m ≤ 65536) (h1 : appG L.nm (Fr.putF B) g = (c1, g1)) (h2 : syncG L.nm g1 = (c2, g2)) (hc1 : c1 ≠ 3) (hc0 : c1 ≠ 0) :
    Calls Try.prog 6 #[.pointer (some ⟨l, 0, none⟩), .slice ao m cap] w fun e w' => AddR (addG B L g) d mb base l w e w' := by
  have hmf : ∀ (fn : Fn) (first cap : Array Value) (w : World), (Instr.makeFunc fn first cap).run Try.prog w = .ok (.func fn first cap) w := fun _ _ _ _ => rfl
  have hBl := hB.1
  have HO := Lib.hid (show addG B L g = (c1, ⟨L.nm, L.n, L.size, true⟩, g1) from by unfold addG; rw [if_neg (by rw [hbr]; simp), if_neg (by omega), h1, if_neg hc1, if_pos hc0])
  have hn0 := hLl.n0
  have hn1 := hLl.n1
  have hz0 := hLl.s0
  have hz1 := hLl.s1
  have hl1 : Lim (q + m + 12) (k + 1) g1 := by have := hlim.app (s := L.nm) (B := Fr.putF B) (q' := q + m + 12) (k' := k + 1) (by rw [putF_len]; omega) (Nat.le_refl _); rw [h1] at this; exact this
  have HAP := Lib.hid (fun (va : Option Addr) (K vc : Nat) (w' : World) (hb : base ≤ w'.heap.size) (hd' : DSig w' d mb base g) (hv : IsBytes w' va K vc (Fr.putF B)) => Append_S L.nm hss d mb base q k g va K vc (Fr.putF B) w' hb hd' hlim (by rw [putF_len]; omega) (by omega) hv)
  have HSY := Lib.hid (fun (w' : World) (hb : base ≤ w'.heap.size) (hd' : DSig w' d mb base g1) => Sync_S L.nm d mb base (q + m + 12) (k + 1) g1 w' hb hd' hl1 (by omega))
  rw [h1] at HAP
  rw [h2] at HSY
  obtain ⟨nm, n, sz, br⟩ := L
  dsimp only at hl hbr hn0 hn1 hz0 hz1 HAP HSY HO
  subst hbr
  have HL := Lib.hid hl
  have HD := Lib.hid hd
  have HB := Lib.hid hB
  have HS := Lib.hid (And.intro hbs (And.intro hbl hBl))
  have HLE : Hid (n + 1 ≤ 4294967296 ∧ sz + m + 12 ≤ 8589934592) := Lib.hid (by omega)
  clear hl hd hB hlim hLl hl1 h1 h2 hss hBl hk hbl
  go_enter_defers Try.func6, Try.ntmps6
  go_wp2_with fail
  generalize hw1 : (w.alloc (.cells #[.pointer (some ⟨l, 0, none⟩)] 24)).alloc (.cells #[.int .i64 0] 28) = w1
  obtain ⟨b0, b1, hB1, hS1⟩ := add_boxes l w w1 hw1
  clear hw1
  generalize hN : w.heap.size = N at b0 b1 hS1 hbs ⊢
  have hl1 := HL.out.later hB1
  obtain ⟨l0, l1, l2, l3, l4⟩ := hl1.cells
  have c0 : w1.cell? ⟨N, 0, none⟩ = some (.pointer (some ⟨l, 0, none⟩)) := cell_of_row _ _ _ _ _ _ b0
  have HL1 := Lib.hid hl1
  have HBX := Lib.hid (And.intro b0 (And.intro b1 hN))
  have HBL := Lib.hid hB1
  clear hl1 b0 b1 hB1 l0 l1 l2 l3 hN
  refine (lnone_any l d nm n sz false w1 HL1.out).mono ?_
  rintro e w' ⟨rfl, rfl⟩
  go_wp2_with fail
  refine (Put_any ao m cap B w1 (HB.out.later HBL.out) hm).mono ?_
  rintro e w2 ⟨v, rfl, hown, hb2⟩
  have x0 : w2.heap[N]? = _ := (hb2.block N (by omega)).trans HBX.out.1
  have x1 : w2.heap[N + 1]? = _ := (hb2.block (N + 1) (by omega)).trans HBX.out.2.1
  have d1 : w2.cell? ⟨N + 1, 0, none⟩ = some (.int .i64 0) := cell_of_row _ _ _ _ _ _ x1
  have z1 : w2.frozen? ⟨N + 1, 0, none⟩ = false := frozen_of_row _ _ _ _ _ x1
  obtain ⟨va, vc, hv, hvb, _⟩ := hown.bytes
  obtain ⟨K, hK⟩ : ∃ K, K = (Fr.putF B).length := ⟨_, rfl⟩
  rw [← hK] at hv hvb
  subst hv
  have HVB := Lib.hid hvb
  have HKK := Lib.hid hK
  have HX := Lib.hid (And.intro x0 x1)
  have HB2 := Lib.hid hb2
  clear x0 x1 hown hb2 hvb hK
  go_wp2_with fail
  obtain ⟨F, hF⟩ : ∃ F, F = w2.heap.size := ⟨_, rfl⟩
  rw [← hF]
  generalize hw3 : ((w2.setCell ⟨N + 1, 0, none⟩ (.int .i64 0)).alloc (.cells #[.bool false] 4) : World) = w3
  obtain ⟨y0, y1, yF, hb3, hK3⟩ := add_three N F l (.int .i64 0) w2 w3 hF HX.out.1 HX.out.2 hw3
  have hN := HBX.out.2.2
  have hbw : Below w.heap.size w w3 := HBL.out.trans (by rw [hN]; exact ((HB2.out.mono (by omega)).trans (hb3.mono (by omega))))
  have hFw : w.heap.size ≤ F := by have := HB2.out.size; omega
  have hl3 := HL.out.later hbw
  have hd3 := HD.out.later hbw
  have hv3 : IsBytes w3 va K vc (Fr.putF B) := HVB.out.moved hK3
  have hbs3 : base ≤ w3.heap.size := Nat.le_trans HS.out.1 hbw.size
  have hKm : K = m + 12 := by rw [HKK.out, putF_len, HS.out.2.2]
  have HW3 := Lib.hid (And.intro y0 (And.intro y1 (And.intro yF (And.intro hbw (And.intro hl3 (And.intro hd3 (And.intro hv3 (And.intro hbs3 (And.intro hKm hFw)))))))))
  have k0 : w3.cell? ⟨N, 0, none⟩ = some (.pointer (some ⟨l, 0, none⟩)) := cell_of_row _ _ _ _ _ _ y0
  obtain ⟨k1, k2, _, _, _⟩ := hl3.cells
  clear y0 y1 yF hbw hl3 hd3 hv3 hbs3 hKm hb3 hK3 d1 z1 hw3 hF hN hFw
  go_region_held3 (fun w' => w'.cell? ⟨N, 0, none⟩ = some (.pointer (some ⟨l, 0, none⟩)) ∧ w'.cell? ⟨l, 0, none⟩ = some (.pointer (some ⟨d, 0, none⟩)) ∧ w'.cell? ⟨l, 1, none⟩ = some (.string nm))
    (first
      | (exact ⟨k0, k1, k2⟩)
      | (exact ⟨q0, q1, q2⟩))
    (first
      | (go_at_call 10
         refine (HAP.out va K vc w3.drew HW3.out.2.2.2.2.2.2.2.1 (HW3.out.2.2.2.2.2.1.later (Below.refl _ _).drew) (HW3.out.2.2.2.2.2.2.1.later (Below.refl _ _).drew)).mono ?_
         rintro e w4 ⟨rfl, hd4, hk4⟩
         have hf4 : FD base none w w4 := (FD.of_below (HW3.out.2.2.2.1.trans (Below.refl _ w3).drew) HS.out.1).trans (FD.of_kept (HW3.out.2.2.2.2.2.1.later (Below.refl _ _).drew) hk4)
         have hfk4 : FD base none w3.drew w4 := FD.of_kept (HW3.out.2.2.2.2.2.1.later (Below.refl _ _).drew) hk4
         have hl4 : LedRow w4 l d nm n sz false := LedRow.fd (w := w3.drew) HW3.out.2.2.2.2.1 hfk4
         have q0' : w4.heap[N]? = some (.cells #[.pointer (some ⟨l, 0, none⟩)] 24 (0, 0)) := hfk4.cells _ _ _ _ HW3.out.1 (by unfold TD; decide) (by simp)
         have q0 : w4.cell? ⟨N, 0, none⟩ = some (.pointer (some ⟨l, 0, none⟩)) := cell_of_row _ _ _ _ _ _ q0'
         have q1 := hl4.cells.1
         have q2 := hl4.cells.2.1))
  all_goals
    go_split_ands
    have qR : w4.heap[N + 1]? = some (.cells #[.int .i64 0] 28 (0, 0)) := hfk4.cells _ _ _ _ HW3.out.2.1 (by unfold TD; decide) (by simp)
    have qF : w4.heap[F]? = some (.cells #[.bool false] 4 (0, 0)) := hfk4.cells _ _ _ _ HW3.out.2.2.1 (by unfold TD; decide) (by simp)
    have HW4 := Lib.hid (And.intro q0' (And.intro qR (And.intro qF (And.intro hl4 (And.intro hd4 hf4)))))
    have cR : w4.cell? ⟨N + 1, 0, none⟩ = some (.int .i64 0) := cell_of_row _ _ _ _ _ _ qR
    have zR : w4.frozen? ⟨N + 1, 0, none⟩ = false := frozen_of_row _ _ _ _ _ qR
    have cF : w4.cell? ⟨F, 0, none⟩ = some (.bool false) := cell_of_row _ _ _ _ _ _ qF
    have zF : w4.frozen? ⟨F, 0, none⟩ = false := frozen_of_row _ _ _ _ _ qF
    clear q0' qR qF hl4 hd4 hf4 hfk4 hk4
    have e0 : (c1 == 0) = false := by simpa using hc0
    have e3 : (c1 == 3) = false := by simpa using hc1
    have HC := Lib.hid (And.intro hc0 hc1)
    clear hc0 hc1
    go_wp2_with fail
    have hfin := ((⟨HW4.out.2.2.2.2.1, HW4.out.2.2.2.1, HW4.out.2.2.1, HW4.out.2.1, HW4.out.1, HW4.out.2.2.2.2.2.wide _⟩ : FinM w w4 d mb base l N F nm n sz 0 false g1)).setR (c' := c1) (by have := HBX.out.2.2; omega) HS.out.1
    generalize hw6 : (w4.setCell ⟨N + 1, 0, none⟩ (.int .i64 c1) : World) = w6 at hfin ⊢
    clear hw6
    obtain ⟨u1, uF, u0, u4, uz, u8, hd7, hl7, hf7⟩ := hfin.fin (b := true) HL.out HS.out.2.1
    refine leaves_cons (f := 17) (args := #[.pointer (some ⟨N + 1, 0, none⟩), .pointer (some ⟨F, 0, none⟩), .pointer (some ⟨N, 0, none⟩)]) (by simp) (by simp [go_sem]) ?_
    refine (AddEnd_fail (N + 1) F N l c1 e0 .returning w6 u1 uF u0 u4 uz).mono ?_
    rintro e u' w7 ⟨rfl, rfl, rfl⟩
    have hend : AddR (addG B ⟨nm, n, sz, false⟩ g) d mb base l w (.returned (.int .i64 c1)) (w6.setCell ⟨l, 4, none⟩ (.bool true)) := by
      rw [HO.out]
      exact ⟨rfl, hd7, hl7, hf7⟩
    generalize w6.setCell ⟨l, 4, none⟩ (.bool true) = w7 at hend u8 ⊢
    have HEND := Lib.hid hend
    clear hend hd7 hl7 hf7 hfin u1 uF u0 u4 uz
    simp [Leaves, settle, results, Try.results6, go_sem, u8]
    exact HEND.out
set_option maxRecDepth 100000 in
set_option maxHeartbeats 2000000 in
theorem Add_sfail [Zone] (base d mb l q k : Nat) (L : LSig) (g g1 g2 : Sig) (c1 c2 : Int) (ao : Option Addr) (m cap : Nat) (B : List UInt8) (w : World) (hss : L.nm.size ≤ 1099511627776) (hbs : base ≤ w.heap.size) (hbl : base ≤ l) (hl : LedRow w l d L.nm L.n L.size L.br) (hd : DSig w d mb base g) (hB : IsBytes w ao m cap B) (hbr : L.br = false)
    (hlim : Lim q k g) (hLl : LLim q L) (hq : q + m + 13 ≤ 4294967296) (hk : k + 2 ≤ 1000000) (hm : m ≤ 65536) (h1 : appG L.nm (Fr.putF B) g = (c1, g1)) (h2 : syncG L.nm g1 = (c2, g2)) (hc0 : c1 = 0) (hc2 : c2 ≠ 0) :
    Calls Try.prog 6 #[.pointer (some ⟨l, 0, none⟩), .slice ao m cap] w fun e w' => AddR (addG B L g) d mb base l w e w' := by
  have hmf : ∀ (fn : Fn) (first cap : Array Value) (w : World), (Instr.makeFunc fn first cap).run Try.prog w = .ok (.func fn first cap) w := fun _ _ _ _ => rfl
  have hBl := hB.1
  have HO := Lib.hid (show addG B L g = (c2, ⟨L.nm, L.n, L.size, true⟩, g2) from by unfold addG; rw [if_neg (by rw [hbr]; simp), if_neg (by omega), h1, if_neg (by dsimp only; omega), if_neg (by dsimp only; omega)]; dsimp only; rw [h2, if_pos hc2])
  have hn0 := hLl.n0
  have hn1 := hLl.n1
  have hz0 := hLl.s0
  have hz1 := hLl.s1
  have hl1 : Lim (q + m + 12) (k + 1) g1 := by have := hlim.app (s := L.nm) (B := Fr.putF B) (q' := q + m + 12) (k' := k + 1) (by rw [putF_len]; omega) (Nat.le_refl _); rw [h1] at this; exact this
  have HAP := Lib.hid (fun (va : Option Addr) (K vc : Nat) (w' : World) (hb : base ≤ w'.heap.size) (hd' : DSig w' d mb base g) (hv : IsBytes w' va K vc (Fr.putF B)) => Append_S L.nm hss d mb base q k g va K vc (Fr.putF B) w' hb hd' hlim (by rw [putF_len]; omega) (by omega) hv)
  have HSY := Lib.hid (fun (w' : World) (hb : base ≤ w'.heap.size) (hd' : DSig w' d mb base g1) => Sync_S L.nm d mb base (q + m + 12) (k + 1) g1 w' hb hd' hl1 (by omega))
  rw [h1] at HAP
  rw [h2] at HSY
  obtain ⟨nm, n, sz, br⟩ := L
  dsimp only at hl hbr hn0 hn1 hz0 hz1 HAP HSY HO
  subst hbr
  have HL := Lib.hid hl
  have HD := Lib.hid hd
  have HB := Lib.hid hB
  have HS := Lib.hid (And.intro hbs (And.intro hbl hBl))
  have HLE : Hid (n + 1 ≤ 4294967296 ∧ sz + m + 12 ≤ 8589934592) := Lib.hid (by omega)
  clear hl hd hB hlim hLl hl1 h1 h2 hss hBl hk hbl
  go_enter_defers Try.func6, Try.ntmps6
  go_wp2_with fail
  generalize hw1 : (w.alloc (.cells #[.pointer (some ⟨l, 0, none⟩)] 24)).alloc (.cells #[.int .i64 0] 28) = w1
  obtain ⟨b0, b1, hB1, hS1⟩ := add_boxes l w w1 hw1
  clear hw1
  generalize hN : w.heap.size = N at b0 b1 hS1 hbs ⊢
  have hl1 := HL.out.later hB1
  obtain ⟨l0, l1, l2, l3, l4⟩ := hl1.cells
  have c0 : w1.cell? ⟨N, 0, none⟩ = some (.pointer (some ⟨l, 0, none⟩)) := cell_of_row _ _ _ _ _ _ b0
  have HL1 := Lib.hid hl1
  have HBX := Lib.hid (And.intro b0 (And.intro b1 hN))
  have HBL := Lib.hid hB1
  clear hl1 b0 b1 hB1 l0 l1 l2 l3 hN
  refine (lnone_any l d nm n sz false w1 HL1.out).mono ?_
  rintro e w' ⟨rfl, rfl⟩
  go_wp2_with fail
  refine (Put_any ao m cap B w1 (HB.out.later HBL.out) hm).mono ?_
  rintro e w2 ⟨v, rfl, hown, hb2⟩
  have x0 : w2.heap[N]? = _ := (hb2.block N (by omega)).trans HBX.out.1
  have x1 : w2.heap[N + 1]? = _ := (hb2.block (N + 1) (by omega)).trans HBX.out.2.1
  have d1 : w2.cell? ⟨N + 1, 0, none⟩ = some (.int .i64 0) := cell_of_row _ _ _ _ _ _ x1
  have z1 : w2.frozen? ⟨N + 1, 0, none⟩ = false := frozen_of_row _ _ _ _ _ x1
  obtain ⟨va, vc, hv, hvb, _⟩ := hown.bytes
  obtain ⟨K, hK⟩ : ∃ K, K = (Fr.putF B).length := ⟨_, rfl⟩
  rw [← hK] at hv hvb
  subst hv
  have HVB := Lib.hid hvb
  have HKK := Lib.hid hK
  have HX := Lib.hid (And.intro x0 x1)
  have HB2 := Lib.hid hb2
  clear x0 x1 hown hb2 hvb hK
  go_wp2_with fail
  obtain ⟨F, hF⟩ : ∃ F, F = w2.heap.size := ⟨_, rfl⟩
  rw [← hF]
  generalize hw3 : ((w2.setCell ⟨N + 1, 0, none⟩ (.int .i64 0)).alloc (.cells #[.bool false] 4) : World) = w3
  obtain ⟨y0, y1, yF, hb3, hK3⟩ := add_three N F l (.int .i64 0) w2 w3 hF HX.out.1 HX.out.2 hw3
  have hN := HBX.out.2.2
  have hbw : Below w.heap.size w w3 := HBL.out.trans (by rw [hN]; exact ((HB2.out.mono (by omega)).trans (hb3.mono (by omega))))
  have hFw : w.heap.size ≤ F := by have := HB2.out.size; omega
  have hl3 := HL.out.later hbw
  have hd3 := HD.out.later hbw
  have hv3 : IsBytes w3 va K vc (Fr.putF B) := HVB.out.moved hK3
  have hbs3 : base ≤ w3.heap.size := Nat.le_trans HS.out.1 hbw.size
  have hKm : K = m + 12 := by rw [HKK.out, putF_len, HS.out.2.2]
  have HW3 := Lib.hid (And.intro y0 (And.intro y1 (And.intro yF (And.intro hbw (And.intro hl3 (And.intro hd3 (And.intro hv3 (And.intro hbs3 (And.intro hKm hFw)))))))))
  have k0 : w3.cell? ⟨N, 0, none⟩ = some (.pointer (some ⟨l, 0, none⟩)) := cell_of_row _ _ _ _ _ _ y0
  obtain ⟨k1, k2, _, _, _⟩ := hl3.cells
  clear y0 y1 yF hbw hl3 hd3 hv3 hbs3 hKm hb3 hK3 d1 z1 hw3 hF hN hFw
  go_region_held3 (fun w' => w'.cell? ⟨N, 0, none⟩ = some (.pointer (some ⟨l, 0, none⟩)) ∧ w'.cell? ⟨l, 0, none⟩ = some (.pointer (some ⟨d, 0, none⟩)) ∧ w'.cell? ⟨l, 1, none⟩ = some (.string nm))
    (first
      | (exact ⟨k0, k1, k2⟩)
      | (exact ⟨q0, q1, q2⟩))
    (first
      | (go_at_call 10
         refine (HAP.out va K vc w3.drew HW3.out.2.2.2.2.2.2.2.1 (HW3.out.2.2.2.2.2.1.later (Below.refl _ _).drew) (HW3.out.2.2.2.2.2.2.1.later (Below.refl _ _).drew)).mono ?_
         rintro e w4 ⟨rfl, hd4, hk4⟩
         have hf4 : FD base none w w4 := (FD.of_below (HW3.out.2.2.2.1.trans (Below.refl _ w3).drew) HS.out.1).trans (FD.of_kept (HW3.out.2.2.2.2.2.1.later (Below.refl _ _).drew) hk4)
         have hfk4 : FD base none w3.drew w4 := FD.of_kept (HW3.out.2.2.2.2.2.1.later (Below.refl _ _).drew) hk4
         have hl4 : LedRow w4 l d nm n sz false := LedRow.fd (w := w3.drew) HW3.out.2.2.2.2.1 hfk4
         have q0' : w4.heap[N]? = some (.cells #[.pointer (some ⟨l, 0, none⟩)] 24 (0, 0)) := hfk4.cells _ _ _ _ HW3.out.1 (by unfold TD; decide) (by simp)
         have q0 : w4.cell? ⟨N, 0, none⟩ = some (.pointer (some ⟨l, 0, none⟩)) := cell_of_row _ _ _ _ _ _ q0'
         have q1 := hl4.cells.1
         have q2 := hl4.cells.2.1))
  all_goals
    go_split_ands
    have qR : w4.heap[N + 1]? = some (.cells #[.int .i64 0] 28 (0, 0)) := hfk4.cells _ _ _ _ HW3.out.2.1 (by unfold TD; decide) (by simp)
    have qF : w4.heap[F]? = some (.cells #[.bool false] 4 (0, 0)) := hfk4.cells _ _ _ _ HW3.out.2.2.1 (by unfold TD; decide) (by simp)
    have HW4 := Lib.hid (And.intro q0' (And.intro qR (And.intro qF (And.intro hl4 (And.intro hd4 hf4)))))
    have cR : w4.cell? ⟨N + 1, 0, none⟩ = some (.int .i64 0) := cell_of_row _ _ _ _ _ _ qR
    have zR : w4.frozen? ⟨N + 1, 0, none⟩ = false := frozen_of_row _ _ _ _ _ qR
    have cF : w4.cell? ⟨F, 0, none⟩ = some (.bool false) := cell_of_row _ _ _ _ _ _ qF
    have zF : w4.frozen? ⟨F, 0, none⟩ = false := frozen_of_row _ _ _ _ _ qF
    clear q0' qR qF hl4 hd4 hf4 hfk4 hk4
    have HC := Lib.hid (And.intro hc0 hc2)
    have e0 : (c1 == 0) = true := by simpa using hc0
    have e2 : (c2 == 0) = false := by simpa using hc2
    have e2' : (c2 != 0) = true := by simpa using hc2
    clear hc0 hc2
    go_wp2_with fail
    go_region_held3 (fun w' => w'.cell? ⟨N, 0, none⟩ = some (.pointer (some ⟨l, 0, none⟩)) ∧ w'.cell? ⟨l, 0, none⟩ = some (.pointer (some ⟨d, 0, none⟩)) ∧ w'.cell? ⟨l, 1, none⟩ = some (.string nm))
      (first
        | (exact ⟨q0, q1, q2⟩)
        | (exact ⟨s0, s1, s2⟩))
      (first
        | (go_at_call 18
           refine (HSY.out w4.drew (Nat.le_trans HS.out.1 HW4.out.2.2.2.2.2.below.size) (HW4.out.2.2.2.2.1.later (Below.refl _ _).drew)).mono ?_
           rintro e w5 ⟨rfl, hd5, hk5⟩
           have hfk5 : FD base none w4.drew w5 := FD.of_kept (HW4.out.2.2.2.2.1.later (Below.refl _ _).drew) hk5
           have hf5 : FD base none w w5 := HW4.out.2.2.2.2.2.trans ((FD.of_below (Below.refl _ w4).drew (Nat.le_trans HS.out.1 HW4.out.2.2.2.2.2.below.size)).trans hfk5)
           have hl5 : LedRow w5 l d nm n sz false := LedRow.fd (w := w4.drew) HW4.out.2.2.2.1 hfk5
           have s0' : w5.heap[N]? = some (.cells #[.pointer (some ⟨l, 0, none⟩)] 24 (0, 0)) := hfk5.cells _ _ _ _ HW4.out.1 (by unfold TD; decide) (by simp)
           have s0 : w5.cell? ⟨N, 0, none⟩ = some (.pointer (some ⟨l, 0, none⟩)) := cell_of_row _ _ _ _ _ _ s0'
           have s1 := hl5.cells.1
           have s2 := hl5.cells.2.1))
    all_goals
      go_split_ands
      have sR : w5.heap[N + 1]? = some (.cells #[.int .i64 0] 28 (0, 0)) := hfk5.cells _ _ _ _ HW4.out.2.1 (by unfold TD; decide) (by simp)
      have sF : w5.heap[F]? = some (.cells #[.bool false] 4 (0, 0)) := hfk5.cells _ _ _ _ HW4.out.2.2.1 (by unfold TD; decide) (by simp)
      have HW5 := Lib.hid (And.intro s0' (And.intro sR (And.intro sF (And.intro hl5 (And.intro hd5 hf5)))))
      obtain ⟨_, _, r2, r3, r4⟩ := hl5.cells
      have t2 : w5.frozen? ⟨l, 2, none⟩ = false := frozen_of_row _ _ _ _ _ hl5
      have t3 : w5.frozen? ⟨l, 3, none⟩ = false := frozen_of_row _ _ _ _ _ hl5
      have dR : w5.cell? ⟨N + 1, 0, none⟩ = some (.int .i64 0) := cell_of_row _ _ _ _ _ _ sR
      have yR : w5.frozen? ⟨N + 1, 0, none⟩ = false := frozen_of_row _ _ _ _ _ sR
      have hwn : IntKind.i64.wrap (n + 1) = n + 1 := IntWalk.i64_in _ (by have := HLE.out; omega)
      have hwz : IntKind.i64.wrap (sz + (K : Int)) = sz + (K : Int) := IntWalk.i64_in _ (by have h1 := HW3.out.2.2.2.2.2.2.2.2.1; have := HLE.out; omega)
      clear sR sF hl5 hd5 hf5 hfk5 hk5 s0'
      go_wp2_with fail
      have hfin := ((⟨HW5.out.2.2.2.2.1, HW5.out.2.2.2.1, HW5.out.2.2.1, HW5.out.2.1, HW5.out.1, HW5.out.2.2.2.2.2.wide _⟩ : FinM w w5 d mb base l N F nm n sz 0 false g2)).setR (c' := c2) (by have := HBX.out.2.2; omega) HS.out.1
      generalize hw6 : (w5.setCell ⟨N + 1, 0, none⟩ (.int .i64 c2) : World) = w6 at hfin ⊢
      clear hw6
      obtain ⟨u1, uF, u0, u4, uz, u8, hd7, hl7, hf7⟩ := hfin.fin (b := true) HL.out HS.out.2.1
      refine leaves_cons (f := 17) (args := #[.pointer (some ⟨N + 1, 0, none⟩), .pointer (some ⟨F, 0, none⟩), .pointer (some ⟨N, 0, none⟩)]) (by simp) (by simp [go_sem]) ?_
      refine (AddEnd_fail (N + 1) F N l c2 e2 .returning w6 u1 uF u0 u4 uz).mono ?_
      rintro e u' w7 ⟨rfl, rfl, rfl⟩
      have hend : AddR (addG B ⟨nm, n, sz, false⟩ g) d mb base l w (.returned (.int .i64 c2)) (w6.setCell ⟨l, 4, none⟩ (.bool true)) := by
        rw [HO.out]
        exact ⟨rfl, hd7, hl7, hf7⟩
      generalize w6.setCell ⟨l, 4, none⟩ (.bool true) = w7 at hend u8 ⊢
      have HEND := Lib.hid hend
      clear hend hd7 hl7 hf7 hfin u1 uF u0 u4 uz
      simp [Leaves, settle, results, Try.results6, go_sem, u8]
      exact HEND.out
set_option maxRecDepth 100000 in
set_option maxHeartbeats 2000000 in
theorem Add_ok [Zone] (base d mb l q k : Nat) (L : LSig) (g g1 g2 : Sig) (c1 c2 : Int) (ao : Option Addr) (m cap : Nat) (B : List UInt8) (w : World) (hss : L.nm.size ≤ 1099511627776) (hbs : base ≤ w.heap.size) (hbl : base ≤ l) (hl : LedRow w l d L.nm L.n L.size L.br) (hd : DSig w d mb base g) (hB : IsBytes w ao m cap B) (hbr : L.br = false)
    (hlim : Lim q k g) (hLl : LLim q L) (hq : q + m + 13 ≤ 4294967296) (hk : k + 2 ≤ 1000000) (hm : m ≤ 65536) (h1 : appG L.nm (Fr.putF B) g = (c1, g1)) (h2 : syncG L.nm g1 = (c2, g2)) (hc0 : c1 = 0) (hc2 : c2 = 0) :
    Calls Try.prog 6 #[.pointer (some ⟨l, 0, none⟩), .slice ao m cap] w fun e w' => AddR (addG B L g) d mb base l w e w' := by
  have hmf : ∀ (fn : Fn) (first cap : Array Value) (w : World), (Instr.makeFunc fn first cap).run Try.prog w = .ok (.func fn first cap) w := fun _ _ _ _ => rfl
  have hBl := hB.1
  have HO := Lib.hid (show addG B L g = (0, ⟨L.nm, L.n + 1, L.size + ((Fr.putF B).length : Nat), false⟩, g2) from by unfold addG; rw [if_neg (by rw [hbr]; simp), if_neg (by omega), h1, if_neg (by dsimp only; omega), if_neg (by dsimp only; omega)]; dsimp only; rw [h2, if_neg (by dsimp only; omega)])
  have hn0 := hLl.n0
  have hn1 := hLl.n1
  have hz0 := hLl.s0
  have hz1 := hLl.s1
  have hl1 : Lim (q + m + 12) (k + 1) g1 := by have := hlim.app (s := L.nm) (B := Fr.putF B) (q' := q + m + 12) (k' := k + 1) (by rw [putF_len]; omega) (Nat.le_refl _); rw [h1] at this; exact this
  have HAP := Lib.hid (fun (va : Option Addr) (K vc : Nat) (w' : World) (hb : base ≤ w'.heap.size) (hd' : DSig w' d mb base g) (hv : IsBytes w' va K vc (Fr.putF B)) => Append_S L.nm hss d mb base q k g va K vc (Fr.putF B) w' hb hd' hlim (by rw [putF_len]; omega) (by omega) hv)
  have HSY := Lib.hid (fun (w' : World) (hb : base ≤ w'.heap.size) (hd' : DSig w' d mb base g1) => Sync_S L.nm d mb base (q + m + 12) (k + 1) g1 w' hb hd' hl1 (by omega))
  rw [h1] at HAP
  rw [h2] at HSY
  obtain ⟨nm, n, sz, br⟩ := L
  dsimp only at hl hbr hn0 hn1 hz0 hz1 HAP HSY HO
  subst hbr
  have HL := Lib.hid hl
  have HD := Lib.hid hd
  have HB := Lib.hid hB
  have HS := Lib.hid (And.intro hbs (And.intro hbl hBl))
  have HLE : Hid (n + 1 ≤ 4294967296 ∧ sz + m + 12 ≤ 8589934592) := Lib.hid (by omega)
  clear hl hd hB hlim hLl hl1 h1 h2 hss hBl hk hbl
  go_enter_defers Try.func6, Try.ntmps6
  go_wp2_with fail
  generalize hw1 : (w.alloc (.cells #[.pointer (some ⟨l, 0, none⟩)] 24)).alloc (.cells #[.int .i64 0] 28) = w1
  obtain ⟨b0, b1, hB1, hS1⟩ := add_boxes l w w1 hw1
  clear hw1
  generalize hN : w.heap.size = N at b0 b1 hS1 hbs ⊢
  have hl1 := HL.out.later hB1
  obtain ⟨l0, l1, l2, l3, l4⟩ := hl1.cells
  have c0 : w1.cell? ⟨N, 0, none⟩ = some (.pointer (some ⟨l, 0, none⟩)) := cell_of_row _ _ _ _ _ _ b0
  have HL1 := Lib.hid hl1
  have HBX := Lib.hid (And.intro b0 (And.intro b1 hN))
  have HBL := Lib.hid hB1
  clear hl1 b0 b1 hB1 l0 l1 l2 l3 hN
  refine (lnone_any l d nm n sz false w1 HL1.out).mono ?_
  rintro e w' ⟨rfl, rfl⟩
  go_wp2_with fail
  refine (Put_any ao m cap B w1 (HB.out.later HBL.out) hm).mono ?_
  rintro e w2 ⟨v, rfl, hown, hb2⟩
  have x0 : w2.heap[N]? = _ := (hb2.block N (by omega)).trans HBX.out.1
  have x1 : w2.heap[N + 1]? = _ := (hb2.block (N + 1) (by omega)).trans HBX.out.2.1
  have d1 : w2.cell? ⟨N + 1, 0, none⟩ = some (.int .i64 0) := cell_of_row _ _ _ _ _ _ x1
  have z1 : w2.frozen? ⟨N + 1, 0, none⟩ = false := frozen_of_row _ _ _ _ _ x1
  obtain ⟨va, vc, hv, hvb, _⟩ := hown.bytes
  obtain ⟨K, hK⟩ : ∃ K, K = (Fr.putF B).length := ⟨_, rfl⟩
  rw [← hK] at hv hvb
  subst hv
  have HVB := Lib.hid hvb
  have HKK := Lib.hid hK
  have HX := Lib.hid (And.intro x0 x1)
  have HB2 := Lib.hid hb2
  clear x0 x1 hown hb2 hvb hK
  go_wp2_with fail
  obtain ⟨F, hF⟩ : ∃ F, F = w2.heap.size := ⟨_, rfl⟩
  rw [← hF]
  generalize hw3 : ((w2.setCell ⟨N + 1, 0, none⟩ (.int .i64 0)).alloc (.cells #[.bool false] 4) : World) = w3
  obtain ⟨y0, y1, yF, hb3, hK3⟩ := add_three N F l (.int .i64 0) w2 w3 hF HX.out.1 HX.out.2 hw3
  have hN := HBX.out.2.2
  have hbw : Below w.heap.size w w3 := HBL.out.trans (by rw [hN]; exact ((HB2.out.mono (by omega)).trans (hb3.mono (by omega))))
  have hFw : w.heap.size ≤ F := by have := HB2.out.size; omega
  have hl3 := HL.out.later hbw
  have hd3 := HD.out.later hbw
  have hv3 : IsBytes w3 va K vc (Fr.putF B) := HVB.out.moved hK3
  have hbs3 : base ≤ w3.heap.size := Nat.le_trans HS.out.1 hbw.size
  have hKm : K = m + 12 := by rw [HKK.out, putF_len, HS.out.2.2]
  have HW3 := Lib.hid (And.intro y0 (And.intro y1 (And.intro yF (And.intro hbw (And.intro hl3 (And.intro hd3 (And.intro hv3 (And.intro hbs3 (And.intro hKm hFw)))))))))
  have k0 : w3.cell? ⟨N, 0, none⟩ = some (.pointer (some ⟨l, 0, none⟩)) := cell_of_row _ _ _ _ _ _ y0
  obtain ⟨k1, k2, _, _, _⟩ := hl3.cells
  clear y0 y1 yF hbw hl3 hd3 hv3 hbs3 hKm hb3 hK3 d1 z1 hw3 hF hN hFw
  go_region_held3 (fun w' => w'.cell? ⟨N, 0, none⟩ = some (.pointer (some ⟨l, 0, none⟩)) ∧ w'.cell? ⟨l, 0, none⟩ = some (.pointer (some ⟨d, 0, none⟩)) ∧ w'.cell? ⟨l, 1, none⟩ = some (.string nm))
    (first
      | (exact ⟨k0, k1, k2⟩)
      | (exact ⟨q0, q1, q2⟩))
    (first
      | (go_at_call 10
         refine (HAP.out va K vc w3.drew HW3.out.2.2.2.2.2.2.2.1 (HW3.out.2.2.2.2.2.1.later (Below.refl _ _).drew) (HW3.out.2.2.2.2.2.2.1.later (Below.refl _ _).drew)).mono ?_
         rintro e w4 ⟨rfl, hd4, hk4⟩
         have hf4 : FD base none w w4 := (FD.of_below (HW3.out.2.2.2.1.trans (Below.refl _ w3).drew) HS.out.1).trans (FD.of_kept (HW3.out.2.2.2.2.2.1.later (Below.refl _ _).drew) hk4)
         have hfk4 : FD base none w3.drew w4 := FD.of_kept (HW3.out.2.2.2.2.2.1.later (Below.refl _ _).drew) hk4
         have hl4 : LedRow w4 l d nm n sz false := LedRow.fd (w := w3.drew) HW3.out.2.2.2.2.1 hfk4
         have q0' : w4.heap[N]? = some (.cells #[.pointer (some ⟨l, 0, none⟩)] 24 (0, 0)) := hfk4.cells _ _ _ _ HW3.out.1 (by unfold TD; decide) (by simp)
         have q0 : w4.cell? ⟨N, 0, none⟩ = some (.pointer (some ⟨l, 0, none⟩)) := cell_of_row _ _ _ _ _ _ q0'
         have q1 := hl4.cells.1
         have q2 := hl4.cells.2.1))
  all_goals
    go_split_ands
    have qR : w4.heap[N + 1]? = some (.cells #[.int .i64 0] 28 (0, 0)) := hfk4.cells _ _ _ _ HW3.out.2.1 (by unfold TD; decide) (by simp)
    have qF : w4.heap[F]? = some (.cells #[.bool false] 4 (0, 0)) := hfk4.cells _ _ _ _ HW3.out.2.2.1 (by unfold TD; decide) (by simp)
    have HW4 := Lib.hid (And.intro q0' (And.intro qR (And.intro qF (And.intro hl4 (And.intro hd4 hf4)))))
    have cR : w4.cell? ⟨N + 1, 0, none⟩ = some (.int .i64 0) := cell_of_row _ _ _ _ _ _ qR
    have zR : w4.frozen? ⟨N + 1, 0, none⟩ = false := frozen_of_row _ _ _ _ _ qR
    have cF : w4.cell? ⟨F, 0, none⟩ = some (.bool false) := cell_of_row _ _ _ _ _ _ qF
    have zF : w4.frozen? ⟨F, 0, none⟩ = false := frozen_of_row _ _ _ _ _ qF
    clear q0' qR qF hl4 hd4 hf4 hfk4 hk4
    have HC := Lib.hid (And.intro hc0 hc2)
    have e0 : (c1 == 0) = true := by simpa using hc0
    have e2 : (c2 == 0) = true := by simpa using hc2
    have e2' : (c2 != 0) = false := by simpa using hc2
    clear hc0 hc2
    go_wp2_with fail
    go_region_held3 (fun w' => w'.cell? ⟨N, 0, none⟩ = some (.pointer (some ⟨l, 0, none⟩)) ∧ w'.cell? ⟨l, 0, none⟩ = some (.pointer (some ⟨d, 0, none⟩)) ∧ w'.cell? ⟨l, 1, none⟩ = some (.string nm))
      (first
        | (exact ⟨q0, q1, q2⟩)
        | (exact ⟨s0, s1, s2⟩))
      (first
        | (go_at_call 18
           refine (HSY.out w4.drew (Nat.le_trans HS.out.1 HW4.out.2.2.2.2.2.below.size) (HW4.out.2.2.2.2.1.later (Below.refl _ _).drew)).mono ?_
           rintro e w5 ⟨rfl, hd5, hk5⟩
           have hfk5 : FD base none w4.drew w5 := FD.of_kept (HW4.out.2.2.2.2.1.later (Below.refl _ _).drew) hk5
           have hf5 : FD base none w w5 := HW4.out.2.2.2.2.2.trans ((FD.of_below (Below.refl _ w4).drew (Nat.le_trans HS.out.1 HW4.out.2.2.2.2.2.below.size)).trans hfk5)
           have hl5 : LedRow w5 l d nm n sz false := LedRow.fd (w := w4.drew) HW4.out.2.2.2.1 hfk5
           have s0' : w5.heap[N]? = some (.cells #[.pointer (some ⟨l, 0, none⟩)] 24 (0, 0)) := hfk5.cells _ _ _ _ HW4.out.1 (by unfold TD; decide) (by simp)
           have s0 : w5.cell? ⟨N, 0, none⟩ = some (.pointer (some ⟨l, 0, none⟩)) := cell_of_row _ _ _ _ _ _ s0'
           have s1 := hl5.cells.1
           have s2 := hl5.cells.2.1))
    all_goals
      go_split_ands
      have sR : w5.heap[N + 1]? = some (.cells #[.int .i64 0] 28 (0, 0)) := hfk5.cells _ _ _ _ HW4.out.2.1 (by unfold TD; decide) (by simp)
      have sF : w5.heap[F]? = some (.cells #[.bool false] 4 (0, 0)) := hfk5.cells _ _ _ _ HW4.out.2.2.1 (by unfold TD; decide) (by simp)
      have HW5 := Lib.hid (And.intro s0' (And.intro sR (And.intro sF (And.intro hl5 (And.intro hd5 hf5)))))
      obtain ⟨_, _, r2, r3, r4⟩ := hl5.cells
      have t2 : w5.frozen? ⟨l, 2, none⟩ = false := frozen_of_row _ _ _ _ _ hl5
      have t3 : w5.frozen? ⟨l, 3, none⟩ = false := frozen_of_row _ _ _ _ _ hl5
      have dR : w5.cell? ⟨N + 1, 0, none⟩ = some (.int .i64 0) := cell_of_row _ _ _ _ _ _ sR
      have yR : w5.frozen? ⟨N + 1, 0, none⟩ = false := frozen_of_row _ _ _ _ _ sR
      have hwn : IntKind.i64.wrap (n + 1) = n + 1 := IntWalk.i64_in _ (by have := HLE.out; omega)
      have hwz : IntKind.i64.wrap (sz + (K : Int)) = sz + (K : Int) := IntWalk.i64_in _ (by have h1 := HW3.out.2.2.2.2.2.2.2.2.1; have := HLE.out; omega)
      clear sR sF hl5 hd5 hf5 hfk5 hk5 s0'
      go_wp2_with fail
      have hfin := ((((⟨HW5.out.2.2.2.2.1, HW5.out.2.2.2.1, HW5.out.2.2.1, HW5.out.2.1, HW5.out.1, HW5.out.2.2.2.2.2.wide _⟩ : FinM w w5 d mb base l N F nm n sz 0 false g2)).set2 (n' := n + 1) HL.out HS.out.2.1).set3 (z' := sz + (K : Int)) HL.out HS.out.2.1).setR (c' := 0) (by have := HBX.out.2.2; omega) HS.out.1
      generalize hw6 : (((w5.setCell ⟨l, 2, none⟩ (.int .i64 (n + 1))).setCell ⟨l, 3, none⟩ (.int .i64 (sz + (K : Int)))).setCell ⟨N + 1, 0, none⟩ (.int .i64 0) : World) = w6 at hfin ⊢
      clear hw6
      obtain ⟨u1, uF, u0, u4, uz, u8, hd7, hl7, hf7⟩ := hfin.fin (b := false) HL.out HS.out.2.1
      refine leaves_cons (f := 17) (args := #[.pointer (some ⟨N + 1, 0, none⟩), .pointer (some ⟨F, 0, none⟩), .pointer (some ⟨N, 0, none⟩)]) (by simp) (by simp [go_sem]) ?_
      refine (AddEnd_ok (N + 1) F N l false .returning w6 u1 uF u0 u4 uz).mono ?_
      rintro e u' w7 ⟨rfl, rfl, rfl⟩
      have hend : AddR (addG B ⟨nm, n, sz, false⟩ g) d mb base l w (.returned (.int .i64 0)) (w6.setCell ⟨l, 4, none⟩ (.bool false)) := by
        rw [HO.out]
        exact ⟨rfl, hd7, (by rw [← HKK.out]; exact hl7), hf7⟩
      generalize w6.setCell ⟨l, 4, none⟩ (.bool false) = w7 at hend u8 ⊢
      have HEND := Lib.hid hend
      clear hend hd7 hl7 hf7 hfin u1 uF u0 u4 uz
      simp [Leaves, settle, results, Try.results6, go_sem, u8]
      exact HEND.out
end Go.Proofs.Ytgbpgmbnihfkkaa
