/- layer 28's statements: a pair of disks and ledgers; act at a disk's calls -/
import Derived.Test.YtjkkfjmloleedaaGreatRefPut
import Derived.Test.YtjkkfjmloleedaaGreatLROpen
import Derived.Test.YtjkkfjmloleedaaGreatRefScan
set_option linter.unusedSimpArgs false
set_option linter.unusedVariables false
namespace Go.Proofs.YtjkkfjmloleedaaGreat
open Go.RowKit
set_option linter.unusedSectionVars false
abbrev Z0 : Zone := ⟨fun _ => False⟩
/-- disks and ledgers, the program's and the reference's, side by side. -/
structure PairAt (w : World) (p d mb r base q k : Nat) (g : Sig) (Lo : Option LSig) (lv mv : Value) : Prop where
  row : w.heap[p]? = some (.cells #[.pointer (some ⟨d, 0, none⟩), .pointer (some ⟨r, 0, none⟩), lv, mv] 33 (0, 0))
  hp : base ≤ p
  ds : @DSig Z0 w d mb base g
  rs : @RSig Z0 w r base g
  lim : Lim q k g
  hb : base ≤ w.heap.size
  led : (Lo = none ∧ lv = .pointer none ∧ mv = .pointer none) ∨ ∃ L l m, Lo = some L ∧ lv = .pointer (some ⟨l, 0, none⟩) ∧ mv = .pointer (some ⟨m, 0, none⟩) ∧ base ≤ l ∧ base ≤ m ∧ LedRow w l d L.nm L.n L.size L.br ∧ RLedRow w m r L.nm L.n L.size L.br ∧ LLim q L ∧ L.nm.size ≤ 1099511627776
def NotD (t : TypeId) : Prop := ¬ TD t ∧ ¬ TR t
theorem led_moved {w w' : World} {d r base q q' : Nat} {Lo : Option LSig} {lv mv : Value} (h : (Lo = none ∧ lv = .pointer none ∧ mv = .pointer none) ∨ ∃ L l m, Lo = some L ∧ lv = .pointer (some ⟨l, 0, none⟩) ∧ mv = .pointer (some ⟨m, 0, none⟩) ∧ base ≤ l ∧ base ≤ m ∧ LedRow w l d L.nm L.n L.size L.br ∧ RLedRow w m r L.nm L.n L.size L.br ∧ LLim q L ∧ L.nm.size ≤ 1099511627776)
    (hk : ∀ (j : Nat) (c : Array Value) (t : TypeId) (fr : Nat × Nat), w.heap[j]? = some (.cells c t fr) → NotD t → w'.heap[j]? = some (.cells c t fr)) (hq : q ≤ q') :
    (Lo = none ∧ lv = .pointer none ∧ mv = .pointer none) ∨ ∃ L l m, Lo = some L ∧ lv = .pointer (some ⟨l, 0, none⟩) ∧ mv = .pointer (some ⟨m, 0, none⟩) ∧ base ≤ l ∧ base ≤ m ∧ LedRow w' l d L.nm L.n L.size L.br ∧ RLedRow w' m r L.nm L.n L.size L.br ∧ LLim q' L ∧ L.nm.size ≤ 1099511627776 := by
  rcases h with h | ⟨L, l, m, e1, e2, e3, e4, e5, e6, e7, e8, e9⟩
  · exact .inl h
  · exact .inr ⟨L, l, m, e1, e2, e3, e4, e5, hk _ _ _ _ e6 (by unfold NotD TD TR; decide), hk _ _ _ _ e7 (by unfold NotD TD TR; decide), e8.mono hq, e9⟩
theorem PairAt.later {w w' : World} {p d mb r base q k : Nat} {g : Sig} {Lo : Option LSig} {lv mv : Value} (h : PairAt w p d mb r base q k g Lo lv mv) (hb : Below w.heap.size w w') : PairAt w' p d mb r base q k g Lo lv mv :=
  ⟨(hb.block p (heap_lt h.row)).trans h.row, h.hp, @DSig.later Z0 _ _ _ _ _ _ h.ds hb, @RSig.later Z0 _ _ _ _ _ h.rs hb, h.lim, Nat.le_trans h.hb hb.size, led_moved h.led (fun j c t fr hj _ => (hb.block j (heap_lt hj)).trans hj) (Nat.le_refl _)⟩
theorem PairAt.fit {w : World} {p d mb r base q k : Nat} {g : Sig} {Lo : Option LSig} {lv mv : Value} (h : PairAt w p d mb r base q k g Lo lv mv) : Fit g := @DSig.fit Z0 _ _ _ _ _ h.ds
theorem PairAt.cells {w : World} {p d mb r base q k : Nat} {g : Sig} {Lo : Option LSig} {lv mv : Value} (h : PairAt w p d mb r base q k g Lo lv mv) : w.cell? ⟨p, 0, none⟩ = some (.pointer (some ⟨d, 0, none⟩)) ∧ w.cell? ⟨p, 1, none⟩ = some (.pointer (some ⟨r, 0, none⟩)) ∧ w.cell? ⟨p, 2, none⟩ = some lv ∧ w.cell? ⟨p, 3, none⟩ = some mv := by
  have hr := h.row
  refine ⟨?_, ?_, ?_, ?_⟩ <;> simp only [World.cell?, hr] <;> rfl
/-- a call. -/
structure ActL where
  kind : Int
  size : Int
  keep : Int
  nm : ByteArray
  ba : Option Addr
  bn : Nat
  bc : Nat
  B : List UInt8
def ActL.row (x : ActL) : Array Value := #[.int .i64 x.kind, .int .i64 x.size, .int .i64 x.keep, .string x.nm, .slice x.ba x.bn x.bc]
def BoxL (bx : Nat) (x : ActL) (w : World) : Prop := w.heap[bx]? = some (.cells x.row 38 (0, 0))
theorem BoxL.cells {bx : Nat} {x : ActL} {w : World} (h : BoxL bx x w) : w.cell? ⟨bx, 0, none⟩ = some (.int .i64 x.kind) ∧ w.cell? ⟨bx, 1, none⟩ = some (.int .i64 x.size) ∧ w.cell? ⟨bx, 2, none⟩ = some (.int .i64 x.keep) ∧ w.cell? ⟨bx, 3, none⟩ = some (.string x.nm) ∧ w.cell? ⟨bx, 4, none⟩ = some (.slice x.ba x.bn x.bc) := by
  unfold BoxL at h
  refine ⟨?_, ?_, ?_, ?_, ?_⟩ <;> simp only [World.cell?, h] <;> rfl
/-- what stays beside both: the pair's row and the call's box. -/
def SideL (p : Nat) (row : Array Value) (bx : Nat) (x : ActL) (w : World) : Prop := w.heap[p]? = some (.cells row 33 (0, 0)) ∧ BoxL bx x w
theorem SideL.fd {p : Nat} {row : Array Value} {bx : Nat} {x : ActL} {w w' : World} {base : Nat} {y : Option Nat} (h : SideL p row bx x w) (k : FD base y w w') (h1 : y ≠ some p) (h2 : y ≠ some bx) : SideL p row bx x w' :=
  ⟨k.cells _ _ _ _ h.1 (by unfold TD; decide) h1, k.cells _ _ _ _ h.2 (by unfold TD; decide) h2⟩
theorem SideL.fr {p : Nat} {row : Array Value} {bx : Nat} {x : ActL} {w w' : World} {base : Nat} {y : Option Nat} (h : SideL p row bx x w) (k : FR base y w w') (h1 : y ≠ some p) (h2 : y ≠ some bx) : SideL p row bx x w' :=
  ⟨k.cells _ _ _ _ h.1 (by unfold TR; decide) h1, k.cells _ _ _ _ h.2 (by unfold TR; decide) h2⟩
theorem SideL.cells {p d r : Nat} {lv mv : Value} {bx : Nat} {x : ActL} {w : World} (h : SideL p #[.pointer (some ⟨d, 0, none⟩), .pointer (some ⟨r, 0, none⟩), lv, mv] bx x w) : w.cell? ⟨p, 0, none⟩ = some (.pointer (some ⟨d, 0, none⟩)) ∧ w.cell? ⟨p, 1, none⟩ = some (.pointer (some ⟨r, 0, none⟩)) ∧ w.cell? ⟨p, 2, none⟩ = some lv ∧ w.cell? ⟨p, 3, none⟩ = some mv := by
  have hr := h.1
  refine ⟨?_, ?_, ?_, ?_⟩ <;> simp only [World.cell?, hr] <;> rfl
/-- what act tells. -/
def PActR (p d mb r base q k : Nat) (w : World) (e : Ending) (w' : World) : Prop := e = .returned (.bool true) ∧ (∃ g Lo lv mv, PairAt w' p d mb r base q k g Lo lv mv) ∧ Below base w w'
section
variable {p d mb r base q k : Nat} {g : Sig} {Lo : Option LSig} {lv mv : Value} {w : World} {x : ActL}
theorem pact_end {W w1 w2 : World} {q' k' : Nat} {g' : Sig} (h : PairAt W p d mb r base q k g Lo lv mv) (hw : Below base w W) (hd1 : @DSig Z0 w1 d mb base g') (hk1 : Kept d mb base W.drew w1) (hr1 : @RSig Z0 w1 r base g) (hr2 : @RSig Z0 w2 r base g') (hm2 : MovedR r base w1 w2) (hl : Lim q' k' g') (hq : q ≤ q') : (∃ g Lo lv mv, PairAt w2 p d mb r base q' k' g Lo lv mv) ∧ Below base w w2 := by
  have f1 : FD base none W.drew w1 := @FD.of_kept Z0 _ _ _ _ _ _ _ (@DSig.later Z0 _ _ _ _ _ _ h.ds (Below.refl W.heap.size W).drew) hk1
  have f2 : FR base none w1 w2 := @FR.of_moved Z0 _ _ _ _ _ _ hr1 hm2
  have hkk : ∀ (j : Nat) (c : Array Value) (t : TypeId) (fr : Nat × Nat), W.heap[j]? = some (.cells c t fr) → NotD t → w2.heap[j]? = some (.cells c t fr) := fun j c t fr hj ht => f2.cells _ _ _ _ (f1.cells _ _ _ _ hj ht.1 (by simp)) ht.2 (by simp)
  have hbb : Below base w w2 := ((hw.trans (Below.refl base W).drew).trans hk1.below).trans hm2.below
  refine ⟨⟨g', Lo, lv, mv, hkk _ _ _ _ h.row (by unfold NotD TD TR; decide), h.hp, @DSig.keptR Z0 _ _ _ _ _ _ _ _ _ hd1 hr1 hm2, hr2, hl, ?_, led_moved h.led hkk hq⟩, hbb⟩
  have := h.hb
  have := f1.below.size
  have := f2.below.size
  have e : W.drew.heap.size = W.heap.size := rfl
  omega
set_option maxRecDepth 100000 in
theorem pact_fuse (hk : x.kind = 5) (h : PairAt w p d mb r base q k g Lo lv mv) (hq : q + x.bn + 1 ≤ 4294967296) (hk9 : k + 2 ≤ 100000) (ht : x.size ≤ 9223372036854775807) :
    Calls Tryz.prog 7 #[.pointer (some ⟨p, 0, none⟩), .agg x.row] w fun e w' => PActR p d mb r base (q + x.bn + 1) (k + 1) w e w' := by
  obtain ⟨xk, xs, xe, nm, ba, bn, bc, B⟩ := x
  dsimp only at hk hq ht ⊢
  obtain rfl : xk = 5 := hk
  obtain ⟨z, g', hzg⟩ : ∃ z g', fuseG xs g = (z, g') := ⟨_, _, rfl⟩
  obtain ⟨xe3, hwe⟩ : ∃ y, IntKind.i64.wrap (xe + 3) = y := ⟨_, rfl⟩
  change Calls Tryz.prog 7 #[.pointer (some ⟨p, 0, none⟩), .agg #[.int .i64 5, .int .i64 xs, .int .i64 xe, .string nm, .slice ba bn bc]] w _
  have hb1 : Below w.heap.size w (w.alloc (.cells #[.int .i64 5, .int .i64 xs, .int .i64 xe, .string nm, .slice ba bn bc] 38)) := (Below.refl _ _).alloc (Nat.le_refl _) _
  have hbx := heap_alloc_new w (.cells #[.int .i64 5, .int .i64 xs, .int .i64 xe, .string nm, .slice ba bn bc] 38)
  generalize hW1 : w.alloc (.cells #[.int .i64 5, .int .i64 xs, .int .i64 xe, .string nm, .slice ba bn bc] 38) = W1 at hb1 hbx
  have hb2 : Below W1.heap.size W1 (W1.alloc (.cells #[.int .i64 xe, .int .i64 xe3, .int .i64 xe, .int .i64 1] 3)) := (Below.refl _ _).alloc (Nat.le_refl _) _
  generalize hW : W1.alloc (.cells #[.int .i64 xe, .int .i64 xe3, .int .i64 xe, .int .i64 1] 3) = W at hb2
  have hbw : Below w.heap.size w W := hb1.trans (hb2.mono hb1.size)
  have hbxW := (hb2.block _ (heap_lt hbx)).trans hbx
  have c2 : W1.cell? ⟨w.heap.size, 2, none⟩ = some (.int .i64 xe) := by simp only [World.cell?, hbx]; rfl
  have d0 : W.cell? ⟨w.heap.size, 0, none⟩ = some (.int .i64 5) := by simp only [World.cell?, hbxW]; rfl
  obtain ⟨bx, hbe⟩ : ∃ b, b = w.heap.size := ⟨_, rfl⟩
  rw [← hbe] at hbxW
  have hBX : BoxL bx ⟨5, xs, xe, nm, ba, bn, bc, B⟩ W := hbxW
  have HA := Lib.hid (And.intro (h.later hbw) (And.intro (hbw.mono h.hb) hBX))
  have HF := Lib.hid h.fit
  have HZ := Lib.hid hzg
  have HQ := Lib.hid (And.intro hq hk9)
  have HT := Lib.hid ht
  have hzz : (z == z) = true := by simp
  have HBE := Lib.hid hbe
  clear h hzg hq hk9 hbe ht hBX hbxW hb1 hb2 hbx hbw
  go_enter Tryz.func7, Tryz.ntmps7
  go_wp2_with fail
  rw [← HBE.out]
  clear d0 c2
  have HAD := Lib.hid (And.intro (HA.out.1.later (Below.refl W.heap.size W).drew) (show SideL p #[.pointer (some ⟨d, 0, none⟩), .pointer (some ⟨r, 0, none⟩), lv, mv] bx ⟨5, xs, xe, nm, ba, bn, bc, B⟩ W.drew from ⟨HA.out.1.row, HA.out.2.2⟩))
  have p0 := HA.out.1.cells.1
  have p1 := HA.out.1.cells.2.1
  have e1 : W.cell? ⟨bx, 1, none⟩ = some (.int .i64 xs) := HA.out.2.2.cells.2.1
  go_region_held3 (fun w' => w'.cell? ⟨p, 0, none⟩ = some (.pointer (some ⟨d, 0, none⟩)) ∧ w'.cell? ⟨p, 1, none⟩ = some (.pointer (some ⟨r, 0, none⟩)) ∧ w'.cell? ⟨bx, 1, none⟩ = some (.int .i64 xs))
    (first
      | (exact ⟨p0, p1, e1⟩)
      | (go_split_ands; exact ⟨(SideL.cells (by assumption)).1, (SideL.cells (by assumption)).2.1, (BoxL.cells (And.right (by assumption : SideL p #[.pointer (some ⟨d, 0, none⟩), .pointer (some ⟨r, 0, none⟩), lv, mv] bx ⟨5, xs, xe, nm, ba, bn, bc, B⟩ _))).2.1⟩))
    (first
      | (go_at_call 16
         refine (@Fuse_S Z0 xs HT.out d mb base g _ HAD.out.1.hb HAD.out.1.ds).mono ?_
         rintro e w1 ⟨rfl, hd1, hk1⟩
         rw [HZ.out] at hd1
         rw [HZ.out]
         have hr1 : @RSig Z0 w1 r base g := @RSig.keptD Z0 _ _ _ _ _ _ _ _ _ HAD.out.1.rs HAD.out.1.ds hk1
         have hB1 : SideL p #[.pointer (some ⟨d, 0, none⟩), .pointer (some ⟨r, 0, none⟩), lv, mv] bx ⟨5, xs, xe, nm, ba, bn, bc, B⟩ w1 := Lib.hid (HAD.out.2.fd (@FD.of_kept Z0 _ _ _ _ _ _ none HAD.out.1.ds hk1) (by simp) (by simp)) |>.out
         have hbb1 : Below base w w1 := (HA.out.2.1.trans (Below.refl base W).drew).trans hk1.below
         have hbz : base ≤ w1.heap.size := Nat.le_trans HAD.out.1.hb hk1.below.size)
      | (go_at_call 17
         refine (@rFuse_S Z0 xs r base g _ (by assumption)).mono ?_
         rintro e w2 ⟨rfl, hr2, hm2⟩
         rw [HZ.out] at hr2
         rw [HZ.out]
         have hB2 : SideL p #[.pointer (some ⟨d, 0, none⟩), .pointer (some ⟨r, 0, none⟩), lv, mv] bx ⟨5, xs, xe, nm, ba, bn, bc, B⟩ w2 := hB1.fr (@FR.of_moved Z0 _ _ _ _ _ none hr1 hm2) (by simp) (by simp)))
  all_goals
    have HF2 := Lib.hid (pact_end (q' := q + bn + 1) (k' := k + 1) HA.out.1 HA.out.2.1 hd1 hk1 hr1 hr2 hm2 (by rw [show g' = (fuseG xs g).2 by rw [HZ.out]]; exact (HA.out.1.lim.fuse HT.out).mono (by omega) (by omega)) (by omega))
    clear hd1 hk1 hr1 hr2 hm2 hB1 hB2
    go_wp2_with fail
    go_ret
    exact ⟨rfl, HF2.out⟩
set_option maxRecDepth 100000 in
theorem pact_app (hk : x.kind = 7) (h : PairAt w p d mb r base q k g Lo lv mv) (hq : q + x.bn + 1 ≤ 4294967296) (hk9 : k + 2 ≤ 100000) (ht : x.nm.size ≤ 1099511627776 ∧ ∀ w', Below base w w' → IsBytes w' x.ba x.bn x.bc x.B ∧ x.B.length = x.bn) :
    Calls Tryz.prog 7 #[.pointer (some ⟨p, 0, none⟩), .agg x.row] w fun e w' => PActR p d mb r base (q + x.bn + 1) (k + 1) w e w' := by
  obtain ⟨xk, xs, xe, nm, ba, bn, bc, B⟩ := x
  dsimp only at hk hq ht ⊢
  obtain rfl : xk = 7 := hk
  obtain ⟨z, g', hzg⟩ : ∃ z g', appG nm B g = (z, g') := ⟨_, _, rfl⟩
  obtain ⟨xe3, hwe⟩ : ∃ y, IntKind.i64.wrap (xe + 3) = y := ⟨_, rfl⟩
  change Calls Tryz.prog 7 #[.pointer (some ⟨p, 0, none⟩), .agg #[.int .i64 7, .int .i64 xs, .int .i64 xe, .string nm, .slice ba bn bc]] w _
  have hb1 : Below w.heap.size w (w.alloc (.cells #[.int .i64 7, .int .i64 xs, .int .i64 xe, .string nm, .slice ba bn bc] 38)) := (Below.refl _ _).alloc (Nat.le_refl _) _
  have hbx := heap_alloc_new w (.cells #[.int .i64 7, .int .i64 xs, .int .i64 xe, .string nm, .slice ba bn bc] 38)
  generalize hW1 : w.alloc (.cells #[.int .i64 7, .int .i64 xs, .int .i64 xe, .string nm, .slice ba bn bc] 38) = W1 at hb1 hbx
  have hb2 : Below W1.heap.size W1 (W1.alloc (.cells #[.int .i64 xe, .int .i64 xe3, .int .i64 xe, .int .i64 1] 3)) := (Below.refl _ _).alloc (Nat.le_refl _) _
  generalize hW : W1.alloc (.cells #[.int .i64 xe, .int .i64 xe3, .int .i64 xe, .int .i64 1] 3) = W at hb2
  have hbw : Below w.heap.size w W := hb1.trans (hb2.mono hb1.size)
  have hbxW := (hb2.block _ (heap_lt hbx)).trans hbx
  have c2 : W1.cell? ⟨w.heap.size, 2, none⟩ = some (.int .i64 xe) := by simp only [World.cell?, hbx]; rfl
  have d0 : W.cell? ⟨w.heap.size, 0, none⟩ = some (.int .i64 7) := by simp only [World.cell?, hbxW]; rfl
  obtain ⟨bx, hbe⟩ : ∃ b, b = w.heap.size := ⟨_, rfl⟩
  rw [← hbe] at hbxW
  have hBX : BoxL bx ⟨7, xs, xe, nm, ba, bn, bc, B⟩ W := hbxW
  have HA := Lib.hid (And.intro (h.later hbw) (And.intro (hbw.mono h.hb) hBX))
  have HF := Lib.hid h.fit
  have HZ := Lib.hid hzg
  have HQ := Lib.hid (And.intro hq hk9)
  have HBL : Hid (B.length = bn) := Lib.hid (ht.2 w (Below.refl _ _)).2
  have HT := Lib.hid (show nm.size ≤ 1099511627776 ∧ ∀ w', Below base w w' → IsBytes w' ba bn bc B ∧ B.length = bn from ht)
  have hzz : (z == z) = true := by simp
  have HBE := Lib.hid hbe
  clear h hzg hq hk9 hbe ht hBX hbxW hb1 hb2 hbx hbw
  go_enter Tryz.func7, Tryz.ntmps7
  go_wp2_with fail
  rw [← HBE.out]
  clear d0 c2
  have HAD := Lib.hid (And.intro (HA.out.1.later (Below.refl W.heap.size W).drew) (show SideL p #[.pointer (some ⟨d, 0, none⟩), .pointer (some ⟨r, 0, none⟩), lv, mv] bx ⟨7, xs, xe, nm, ba, bn, bc, B⟩ W.drew from ⟨HA.out.1.row, HA.out.2.2⟩))
  have p0 := HA.out.1.cells.1
  have p1 := HA.out.1.cells.2.1
  have e3 : W.cell? ⟨bx, 3, none⟩ = some (.string nm) := HA.out.2.2.cells.2.2.2.1
  have e4 : W.cell? ⟨bx, 4, none⟩ = some (.slice ba bn bc) := HA.out.2.2.cells.2.2.2.2
  go_region_held3 (fun w' => w'.cell? ⟨p, 0, none⟩ = some (.pointer (some ⟨d, 0, none⟩)) ∧ w'.cell? ⟨p, 1, none⟩ = some (.pointer (some ⟨r, 0, none⟩)) ∧ w'.cell? ⟨bx, 3, none⟩ = some (.string nm) ∧ w'.cell? ⟨bx, 4, none⟩ = some (.slice ba bn bc))
    (first
      | (exact ⟨p0, p1, e3, e4⟩)
      | (go_split_ands; exact ⟨(SideL.cells (by assumption)).1, (SideL.cells (by assumption)).2.1, (BoxL.cells (And.right (by assumption : SideL p #[.pointer (some ⟨d, 0, none⟩), .pointer (some ⟨r, 0, none⟩), lv, mv] bx ⟨7, xs, xe, nm, ba, bn, bc, B⟩ _))).2.2.2.1, (BoxL.cells (And.right (by assumption : SideL p #[.pointer (some ⟨d, 0, none⟩), .pointer (some ⟨r, 0, none⟩), lv, mv] bx ⟨7, xs, xe, nm, ba, bn, bc, B⟩ _))).2.2.2.2⟩))
    (first
      | (go_at_call 20
         refine (@Append_S Z0 nm HT.out.1 d mb base q k g _ _ _ B _ HAD.out.1.hb HAD.out.1.ds HAD.out.1.lim (by have := HQ.out; have := HBL.out; omega) (by have := HQ.out; omega) (HT.out.2 _ (HA.out.2.1.trans (Below.refl base W).drew)).1).mono ?_
         rintro e w1 ⟨rfl, hd1, hk1⟩
         rw [HZ.out] at hd1
         rw [HZ.out]
         have hr1 : @RSig Z0 w1 r base g := @RSig.keptD Z0 _ _ _ _ _ _ _ _ _ HAD.out.1.rs HAD.out.1.ds hk1
         have hB1 : SideL p #[.pointer (some ⟨d, 0, none⟩), .pointer (some ⟨r, 0, none⟩), lv, mv] bx ⟨7, xs, xe, nm, ba, bn, bc, B⟩ w1 := Lib.hid (HAD.out.2.fd (@FD.of_kept Z0 _ _ _ _ _ _ none HAD.out.1.ds hk1) (by simp) (by simp)) |>.out
         have hbb1 : Below base w w1 := (HA.out.2.1.trans (Below.refl base W).drew).trans hk1.below
         have hbz : base ≤ w1.heap.size := Nat.le_trans HAD.out.1.hb hk1.below.size)
      | (go_at_call 21
         refine (@rAppend_S Z0 nm HT.out.1 r base q k g _ _ _ B _ (by assumption) ⟨HAD.out.1.lim, (by have := HQ.out; omega), (by have := HQ.out; omega), HF.out.1, HF.out.2⟩ (fun _ hk => hk.elim) (HT.out.2 _ hbb1).1 (fun wa wb ha hb => (HT.out.2 _ ((hbb1.trans (ha.mono hbz)).trans hb.below)).1) (by have := HQ.out; omega)).mono ?_
         rintro e w2 ⟨rfl, hr2, hm2⟩
         rw [HZ.out] at hr2
         rw [HZ.out]
         have hB2 : SideL p #[.pointer (some ⟨d, 0, none⟩), .pointer (some ⟨r, 0, none⟩), lv, mv] bx ⟨7, xs, xe, nm, ba, bn, bc, B⟩ w2 := hB1.fr (@FR.of_moved Z0 _ _ _ _ _ none hr1 hm2) (by simp) (by simp)))
  all_goals
    have HF2 := Lib.hid (pact_end (q' := q + bn + 1) (k' := k + 1) HA.out.1 HA.out.2.1 hd1 hk1 hr1 hr2 hm2 (by rw [show g' = (appG nm B g).2 by rw [HZ.out]]; exact HA.out.1.lim.app (by have := HBL.out; omega) (by omega)) (by omega))
    clear hd1 hk1 hr1 hr2 hm2 hB1 hB2
    go_wp2_with fail
    go_ret
    exact ⟨rfl, HF2.out⟩
set_option maxRecDepth 100000 in
theorem pact_cut (hk : x.kind = 8) (h : PairAt w p d mb r base q k g Lo lv mv) (hq : q + x.bn + 1 ≤ 4294967296) (hk9 : k + 2 ≤ 100000) :
    Calls Tryz.prog 7 #[.pointer (some ⟨p, 0, none⟩), .agg x.row] w fun e w' => PActR p d mb r base (q + x.bn + 1) (k + 1) w e w' := by
  obtain ⟨xk, xs, xe, nm, ba, bn, bc, B⟩ := x
  dsimp only at hk hq ⊢
  obtain rfl : xk = 8 := hk
  obtain ⟨z, g', hzg⟩ : ∃ z g', cutG nm xs g = (z, g') := ⟨_, _, rfl⟩
  obtain ⟨xe3, hwe⟩ : ∃ y, IntKind.i64.wrap (xe + 3) = y := ⟨_, rfl⟩
  change Calls Tryz.prog 7 #[.pointer (some ⟨p, 0, none⟩), .agg #[.int .i64 8, .int .i64 xs, .int .i64 xe, .string nm, .slice ba bn bc]] w _
  have hb1 : Below w.heap.size w (w.alloc (.cells #[.int .i64 8, .int .i64 xs, .int .i64 xe, .string nm, .slice ba bn bc] 38)) := (Below.refl _ _).alloc (Nat.le_refl _) _
  have hbx := heap_alloc_new w (.cells #[.int .i64 8, .int .i64 xs, .int .i64 xe, .string nm, .slice ba bn bc] 38)
  generalize hW1 : w.alloc (.cells #[.int .i64 8, .int .i64 xs, .int .i64 xe, .string nm, .slice ba bn bc] 38) = W1 at hb1 hbx
  have hb2 : Below W1.heap.size W1 (W1.alloc (.cells #[.int .i64 xe, .int .i64 xe3, .int .i64 xe, .int .i64 1] 3)) := (Below.refl _ _).alloc (Nat.le_refl _) _
  generalize hW : W1.alloc (.cells #[.int .i64 xe, .int .i64 xe3, .int .i64 xe, .int .i64 1] 3) = W at hb2
  have hbw : Below w.heap.size w W := hb1.trans (hb2.mono hb1.size)
  have hbxW := (hb2.block _ (heap_lt hbx)).trans hbx
  have c2 : W1.cell? ⟨w.heap.size, 2, none⟩ = some (.int .i64 xe) := by simp only [World.cell?, hbx]; rfl
  have d0 : W.cell? ⟨w.heap.size, 0, none⟩ = some (.int .i64 8) := by simp only [World.cell?, hbxW]; rfl
  obtain ⟨bx, hbe⟩ : ∃ b, b = w.heap.size := ⟨_, rfl⟩
  rw [← hbe] at hbxW
  have hBX : BoxL bx ⟨8, xs, xe, nm, ba, bn, bc, B⟩ W := hbxW
  have HA := Lib.hid (And.intro (h.later hbw) (And.intro (hbw.mono h.hb) hBX))
  have HF := Lib.hid h.fit
  have HZ := Lib.hid hzg
  have HQ := Lib.hid (And.intro hq hk9)
  have hzz : (z == z) = true := by simp
  have HBE := Lib.hid hbe
  clear h hzg hq hk9 hbe hBX hbxW hb1 hb2 hbx hbw
  go_enter Tryz.func7, Tryz.ntmps7
  go_wp2_with fail
  rw [← HBE.out]
  clear d0 c2
  have HAD := Lib.hid (And.intro (HA.out.1.later (Below.refl W.heap.size W).drew) (show SideL p #[.pointer (some ⟨d, 0, none⟩), .pointer (some ⟨r, 0, none⟩), lv, mv] bx ⟨8, xs, xe, nm, ba, bn, bc, B⟩ W.drew from ⟨HA.out.1.row, HA.out.2.2⟩))
  have p0 := HA.out.1.cells.1
  have p1 := HA.out.1.cells.2.1
  have e3 : W.cell? ⟨bx, 3, none⟩ = some (.string nm) := HA.out.2.2.cells.2.2.2.1
  have e1 : W.cell? ⟨bx, 1, none⟩ = some (.int .i64 xs) := HA.out.2.2.cells.2.1
  go_region_held3 (fun w' => w'.cell? ⟨p, 0, none⟩ = some (.pointer (some ⟨d, 0, none⟩)) ∧ w'.cell? ⟨p, 1, none⟩ = some (.pointer (some ⟨r, 0, none⟩)) ∧ w'.cell? ⟨bx, 3, none⟩ = some (.string nm) ∧ w'.cell? ⟨bx, 1, none⟩ = some (.int .i64 xs))
    (first
      | (exact ⟨p0, p1, e3, e1⟩)
      | (go_split_ands; exact ⟨(SideL.cells (by assumption)).1, (SideL.cells (by assumption)).2.1, (BoxL.cells (And.right (by assumption : SideL p #[.pointer (some ⟨d, 0, none⟩), .pointer (some ⟨r, 0, none⟩), lv, mv] bx ⟨8, xs, xe, nm, ba, bn, bc, B⟩ _))).2.2.2.1, (BoxL.cells (And.right (by assumption : SideL p #[.pointer (some ⟨d, 0, none⟩), .pointer (some ⟨r, 0, none⟩), lv, mv] bx ⟨8, xs, xe, nm, ba, bn, bc, B⟩ _))).2.1⟩))
    (first
      | (go_at_call 22
         refine (@Cut_S Z0 nm xs d mb base q k g _ HAD.out.1.hb HAD.out.1.ds HAD.out.1.lim (by have := HQ.out; omega) (by have := HQ.out; omega)).mono ?_
         rintro e w1 ⟨rfl, hd1, hk1⟩
         rw [HZ.out] at hd1
         rw [HZ.out]
         have hr1 : @RSig Z0 w1 r base g := @RSig.keptD Z0 _ _ _ _ _ _ _ _ _ HAD.out.1.rs HAD.out.1.ds hk1
         have hB1 : SideL p #[.pointer (some ⟨d, 0, none⟩), .pointer (some ⟨r, 0, none⟩), lv, mv] bx ⟨8, xs, xe, nm, ba, bn, bc, B⟩ w1 := Lib.hid (HAD.out.2.fd (@FD.of_kept Z0 _ _ _ _ _ _ none HAD.out.1.ds hk1) (by simp) (by simp)) |>.out
         have hbb1 : Below base w w1 := (HA.out.2.1.trans (Below.refl base W).drew).trans hk1.below
         have hbz : base ≤ w1.heap.size := Nat.le_trans HAD.out.1.hb hk1.below.size)
      | (go_at_call 23
         refine (@rCut_S Z0 nm xs r base q k g _ (by assumption) ⟨HAD.out.1.lim, (by have := HQ.out; omega), (by have := HQ.out; omega), HF.out.1, HF.out.2⟩).mono ?_
         rintro e w2 ⟨rfl, hr2, hm2⟩
         rw [HZ.out] at hr2
         rw [HZ.out]
         have hB2 : SideL p #[.pointer (some ⟨d, 0, none⟩), .pointer (some ⟨r, 0, none⟩), lv, mv] bx ⟨8, xs, xe, nm, ba, bn, bc, B⟩ w2 := hB1.fr (@FR.of_moved Z0 _ _ _ _ _ none hr1 hm2) (by simp) (by simp)))
  all_goals
    have HF2 := Lib.hid (pact_end (q' := q + bn + 1) (k' := k + 1) HA.out.1 HA.out.2.1 hd1 hk1 hr1 hr2 hm2 (by rw [show g' = (cutG nm xs g).2 by rw [HZ.out]]; exact HA.out.1.lim.cut (by omega) (by omega)) (by omega))
    clear hd1 hk1 hr1 hr2 hm2 hB1 hB2
    go_wp2_with fail
    go_ret
    exact ⟨rfl, HF2.out⟩
set_option maxRecDepth 100000 in
theorem pact_sync (hk : x.kind = 9) (h : PairAt w p d mb r base q k g Lo lv mv) (hq : q + x.bn + 1 ≤ 4294967296) (hk9 : k + 2 ≤ 100000) :
    Calls Tryz.prog 7 #[.pointer (some ⟨p, 0, none⟩), .agg x.row] w fun e w' => PActR p d mb r base (q + x.bn + 1) (k + 1) w e w' := by
  obtain ⟨xk, xs, xe, nm, ba, bn, bc, B⟩ := x
  dsimp only at hk hq ⊢
  obtain rfl : xk = 9 := hk
  obtain ⟨z, g', hzg⟩ : ∃ z g', syncG nm g = (z, g') := ⟨_, _, rfl⟩
  obtain ⟨xe3, hwe⟩ : ∃ y, IntKind.i64.wrap (xe + 3) = y := ⟨_, rfl⟩
  change Calls Tryz.prog 7 #[.pointer (some ⟨p, 0, none⟩), .agg #[.int .i64 9, .int .i64 xs, .int .i64 xe, .string nm, .slice ba bn bc]] w _
  have hb1 : Below w.heap.size w (w.alloc (.cells #[.int .i64 9, .int .i64 xs, .int .i64 xe, .string nm, .slice ba bn bc] 38)) := (Below.refl _ _).alloc (Nat.le_refl _) _
  have hbx := heap_alloc_new w (.cells #[.int .i64 9, .int .i64 xs, .int .i64 xe, .string nm, .slice ba bn bc] 38)
  generalize hW1 : w.alloc (.cells #[.int .i64 9, .int .i64 xs, .int .i64 xe, .string nm, .slice ba bn bc] 38) = W1 at hb1 hbx
  have hb2 : Below W1.heap.size W1 (W1.alloc (.cells #[.int .i64 xe, .int .i64 xe3, .int .i64 xe, .int .i64 1] 3)) := (Below.refl _ _).alloc (Nat.le_refl _) _
  generalize hW : W1.alloc (.cells #[.int .i64 xe, .int .i64 xe3, .int .i64 xe, .int .i64 1] 3) = W at hb2
  have hbw : Below w.heap.size w W := hb1.trans (hb2.mono hb1.size)
  have hbxW := (hb2.block _ (heap_lt hbx)).trans hbx
  have c2 : W1.cell? ⟨w.heap.size, 2, none⟩ = some (.int .i64 xe) := by simp only [World.cell?, hbx]; rfl
  have d0 : W.cell? ⟨w.heap.size, 0, none⟩ = some (.int .i64 9) := by simp only [World.cell?, hbxW]; rfl
  obtain ⟨bx, hbe⟩ : ∃ b, b = w.heap.size := ⟨_, rfl⟩
  rw [← hbe] at hbxW
  have hBX : BoxL bx ⟨9, xs, xe, nm, ba, bn, bc, B⟩ W := hbxW
  have HA := Lib.hid (And.intro (h.later hbw) (And.intro (hbw.mono h.hb) hBX))
  have HF := Lib.hid h.fit
  have HZ := Lib.hid hzg
  have HQ := Lib.hid (And.intro hq hk9)
  have hzz : (z == z) = true := by simp
  have HBE := Lib.hid hbe
  clear h hzg hq hk9 hbe hBX hbxW hb1 hb2 hbx hbw
  go_enter Tryz.func7, Tryz.ntmps7
  go_wp2_with fail
  rw [← HBE.out]
  clear d0 c2
  have HAD := Lib.hid (And.intro (HA.out.1.later (Below.refl W.heap.size W).drew) (show SideL p #[.pointer (some ⟨d, 0, none⟩), .pointer (some ⟨r, 0, none⟩), lv, mv] bx ⟨9, xs, xe, nm, ba, bn, bc, B⟩ W.drew from ⟨HA.out.1.row, HA.out.2.2⟩))
  have p0 := HA.out.1.cells.1
  have p1 := HA.out.1.cells.2.1
  have e3 : W.cell? ⟨bx, 3, none⟩ = some (.string nm) := HA.out.2.2.cells.2.2.2.1
  go_region_held3 (fun w' => w'.cell? ⟨p, 0, none⟩ = some (.pointer (some ⟨d, 0, none⟩)) ∧ w'.cell? ⟨p, 1, none⟩ = some (.pointer (some ⟨r, 0, none⟩)) ∧ w'.cell? ⟨bx, 3, none⟩ = some (.string nm))
    (first
      | (exact ⟨p0, p1, e3⟩)
      | (go_split_ands; exact ⟨(SideL.cells (by assumption)).1, (SideL.cells (by assumption)).2.1, (BoxL.cells (And.right (by assumption : SideL p #[.pointer (some ⟨d, 0, none⟩), .pointer (some ⟨r, 0, none⟩), lv, mv] bx ⟨9, xs, xe, nm, ba, bn, bc, B⟩ _))).2.2.2.1⟩))
    (first
      | (go_at_call 24
         refine (@Sync_S Z0 nm d mb base q k g _ HAD.out.1.hb HAD.out.1.ds HAD.out.1.lim (by have := HQ.out; omega)).mono ?_
         rintro e w1 ⟨rfl, hd1, hk1⟩
         rw [HZ.out] at hd1
         rw [HZ.out]
         have hr1 : @RSig Z0 w1 r base g := @RSig.keptD Z0 _ _ _ _ _ _ _ _ _ HAD.out.1.rs HAD.out.1.ds hk1
         have hB1 : SideL p #[.pointer (some ⟨d, 0, none⟩), .pointer (some ⟨r, 0, none⟩), lv, mv] bx ⟨9, xs, xe, nm, ba, bn, bc, B⟩ w1 := Lib.hid (HAD.out.2.fd (@FD.of_kept Z0 _ _ _ _ _ _ none HAD.out.1.ds hk1) (by simp) (by simp)) |>.out
         have hbb1 : Below base w w1 := (HA.out.2.1.trans (Below.refl base W).drew).trans hk1.below
         have hbz : base ≤ w1.heap.size := Nat.le_trans HAD.out.1.hb hk1.below.size)
      | (go_at_call 25
         refine (@rSync_S Z0 nm r base q k g _ (by assumption) ⟨HAD.out.1.lim, (by have := HQ.out; omega), (by have := HQ.out; omega), HF.out.1, HF.out.2⟩ (fun _ hk => hk.elim)).mono ?_
         rintro e w2 ⟨rfl, hr2, hm2⟩
         rw [HZ.out] at hr2
         rw [HZ.out]
         have hB2 : SideL p #[.pointer (some ⟨d, 0, none⟩), .pointer (some ⟨r, 0, none⟩), lv, mv] bx ⟨9, xs, xe, nm, ba, bn, bc, B⟩ w2 := hB1.fr (@FR.of_moved Z0 _ _ _ _ _ none hr1 hm2) (by simp) (by simp)))
  all_goals
    have HF2 := Lib.hid (pact_end (q' := q + bn + 1) (k' := k + 1) HA.out.1 HA.out.2.1 hd1 hk1 hr1 hr2 hm2 (by rw [show g' = (syncG nm g).2 by rw [HZ.out]]; exact HA.out.1.lim.sync (by omega) (by omega)) (by omega))
    clear hd1 hk1 hr1 hr2 hm2 hB1 hB2
    go_wp2_with fail
    go_ret
    exact ⟨rfl, HF2.out⟩
set_option maxRecDepth 100000 in
theorem pact_rem (hk : x.kind = 10) (h : PairAt w p d mb r base q k g Lo lv mv) (hq : q + x.bn + 1 ≤ 4294967296) (hk9 : k + 2 ≤ 100000) :
    Calls Tryz.prog 7 #[.pointer (some ⟨p, 0, none⟩), .agg x.row] w fun e w' => PActR p d mb r base (q + x.bn + 1) (k + 1) w e w' := by
  obtain ⟨xk, xs, xe, nm, ba, bn, bc, B⟩ := x
  dsimp only at hk hq ⊢
  obtain rfl : xk = 10 := hk
  obtain ⟨z, g', hzg⟩ : ∃ z g', remG nm g = (z, g') := ⟨_, _, rfl⟩
  obtain ⟨xe3, hwe⟩ : ∃ y, IntKind.i64.wrap (xe + 3) = y := ⟨_, rfl⟩
  change Calls Tryz.prog 7 #[.pointer (some ⟨p, 0, none⟩), .agg #[.int .i64 10, .int .i64 xs, .int .i64 xe, .string nm, .slice ba bn bc]] w _
  have hb1 : Below w.heap.size w (w.alloc (.cells #[.int .i64 10, .int .i64 xs, .int .i64 xe, .string nm, .slice ba bn bc] 38)) := (Below.refl _ _).alloc (Nat.le_refl _) _
  have hbx := heap_alloc_new w (.cells #[.int .i64 10, .int .i64 xs, .int .i64 xe, .string nm, .slice ba bn bc] 38)
  generalize hW1 : w.alloc (.cells #[.int .i64 10, .int .i64 xs, .int .i64 xe, .string nm, .slice ba bn bc] 38) = W1 at hb1 hbx
  have hb2 : Below W1.heap.size W1 (W1.alloc (.cells #[.int .i64 xe, .int .i64 xe3, .int .i64 xe, .int .i64 1] 3)) := (Below.refl _ _).alloc (Nat.le_refl _) _
  generalize hW : W1.alloc (.cells #[.int .i64 xe, .int .i64 xe3, .int .i64 xe, .int .i64 1] 3) = W at hb2
  have hbw : Below w.heap.size w W := hb1.trans (hb2.mono hb1.size)
  have hbxW := (hb2.block _ (heap_lt hbx)).trans hbx
  have c2 : W1.cell? ⟨w.heap.size, 2, none⟩ = some (.int .i64 xe) := by simp only [World.cell?, hbx]; rfl
  have d0 : W.cell? ⟨w.heap.size, 0, none⟩ = some (.int .i64 10) := by simp only [World.cell?, hbxW]; rfl
  obtain ⟨bx, hbe⟩ : ∃ b, b = w.heap.size := ⟨_, rfl⟩
  rw [← hbe] at hbxW
  have hBX : BoxL bx ⟨10, xs, xe, nm, ba, bn, bc, B⟩ W := hbxW
  have HA := Lib.hid (And.intro (h.later hbw) (And.intro (hbw.mono h.hb) hBX))
  have HF := Lib.hid h.fit
  have HZ := Lib.hid hzg
  have HQ := Lib.hid (And.intro hq hk9)
  have hzz : (z == z) = true := by simp
  have HBE := Lib.hid hbe
  clear h hzg hq hk9 hbe hBX hbxW hb1 hb2 hbx hbw
  go_enter Tryz.func7, Tryz.ntmps7
  go_wp2_with fail
  rw [← HBE.out]
  clear d0 c2
  have HAD := Lib.hid (And.intro (HA.out.1.later (Below.refl W.heap.size W).drew) (show SideL p #[.pointer (some ⟨d, 0, none⟩), .pointer (some ⟨r, 0, none⟩), lv, mv] bx ⟨10, xs, xe, nm, ba, bn, bc, B⟩ W.drew from ⟨HA.out.1.row, HA.out.2.2⟩))
  have p0 := HA.out.1.cells.1
  have p1 := HA.out.1.cells.2.1
  have e3 : W.cell? ⟨bx, 3, none⟩ = some (.string nm) := HA.out.2.2.cells.2.2.2.1
  go_region_held3 (fun w' => w'.cell? ⟨p, 0, none⟩ = some (.pointer (some ⟨d, 0, none⟩)) ∧ w'.cell? ⟨p, 1, none⟩ = some (.pointer (some ⟨r, 0, none⟩)) ∧ w'.cell? ⟨bx, 3, none⟩ = some (.string nm))
    (first
      | (exact ⟨p0, p1, e3⟩)
      | (go_split_ands; exact ⟨(SideL.cells (by assumption)).1, (SideL.cells (by assumption)).2.1, (BoxL.cells (And.right (by assumption : SideL p #[.pointer (some ⟨d, 0, none⟩), .pointer (some ⟨r, 0, none⟩), lv, mv] bx ⟨10, xs, xe, nm, ba, bn, bc, B⟩ _))).2.2.2.1⟩))
    (first
      | (go_at_call 26
         refine (@Remove_S Z0 nm d mb base q k g _ HAD.out.1.hb HAD.out.1.ds HAD.out.1.lim (by have := HQ.out; omega)).mono ?_
         rintro e w1 ⟨rfl, hd1, hk1⟩
         rw [HZ.out] at hd1
         rw [HZ.out]
         have hr1 : @RSig Z0 w1 r base g := @RSig.keptD Z0 _ _ _ _ _ _ _ _ _ HAD.out.1.rs HAD.out.1.ds hk1
         have hB1 : SideL p #[.pointer (some ⟨d, 0, none⟩), .pointer (some ⟨r, 0, none⟩), lv, mv] bx ⟨10, xs, xe, nm, ba, bn, bc, B⟩ w1 := Lib.hid (HAD.out.2.fd (@FD.of_kept Z0 _ _ _ _ _ _ none HAD.out.1.ds hk1) (by simp) (by simp)) |>.out
         have hbb1 : Below base w w1 := (HA.out.2.1.trans (Below.refl base W).drew).trans hk1.below
         have hbz : base ≤ w1.heap.size := Nat.le_trans HAD.out.1.hb hk1.below.size)
      | (go_at_call 27
         refine (@rRemove_S Z0 nm r base q k g _ (by assumption) ⟨HAD.out.1.lim, (by have := HQ.out; omega), (by have := HQ.out; omega), HF.out.1, HF.out.2⟩).mono ?_
         rintro e w2 ⟨rfl, hr2, hm2⟩
         rw [HZ.out] at hr2
         rw [HZ.out]
         have hB2 : SideL p #[.pointer (some ⟨d, 0, none⟩), .pointer (some ⟨r, 0, none⟩), lv, mv] bx ⟨10, xs, xe, nm, ba, bn, bc, B⟩ w2 := hB1.fr (@FR.of_moved Z0 _ _ _ _ _ none hr1 hm2) (by simp) (by simp)))
  all_goals
    have HF2 := Lib.hid (pact_end (q' := q + bn + 1) (k' := k + 1) HA.out.1 HA.out.2.1 hd1 hk1 hr1 hr2 hm2 (by rw [show g' = (remG nm g).2 by rw [HZ.out]]; exact HA.out.1.lim.rem (by omega) (by omega)) (by omega))
    clear hd1 hk1 hr1 hr2 hm2 hB1 hB2
    go_wp2_with fail
    go_ret
    exact ⟨rfl, HF2.out⟩
end
end Go.Proofs.YtjkkfjmloleedaaGreat
