/- layer 28's statements: act, an Add -/
import Derived.Test.YtjkkfjmloleedaaGreatPAct2
set_option linter.unusedSimpArgs false
set_option linter.unusedVariables false
namespace Go.Proofs.YtjkkfjmloleedaaGreat
open Go.RowKit
set_option linter.unusedSectionVars false
theorem addG_nm (B : List UInt8) (L : LSig) (g : Sig) : (addG B L g).2.1.nm = L.nm := by
  unfold addG
  repeat' split
  all_goals rfl
theorem lent_reads {w : World} {g n : Nat} {l : List UInt8} (hl : l.length = n) (hn : n ≤ 4294967296) (h : w.heap[g]? = some (.cells (u8s (lentA l 3)).toArray 5 (0, 0))) : IsBytes w (some ⟨g, 0, none⟩) n (n + 3) l := by
  have h1 := block_IsBytes h (by rw [lentA_length]; unfold maxLen; omega)
  rw [lentA_length, hl] at h1
  have h2 := h1.cut n (by omega)
  have e := lentA_take l 3
  rw [hl] at e
  rwa [e] at h2
theorem led_else {w : World} {l d : Nat} {nm : ByteArray} {n sz : Int} {br : Bool} (h : LedRow w l d nm n sz br) : Else w (some l) := fun j hj => by
  have e : l = j := by injection hj
  subst e
  exact ⟨_, _, _, h, by unfold TD; decide, by unfold TR; decide, by decide⟩
theorem rled_else {w : World} {l d : Nat} {nm : ByteArray} {n sz : Int} {br : Bool} (h : RLedRow w l d nm n sz br) : Else w (some l) := fun j hj => by
  have e : l = j := by injection hj
  subst e
  exact ⟨_, _, _, h, by unfold TD; decide, by unfold TR; decide, by decide⟩
theorem ne_of_types {w : World} {i j : Nat} {c c' : Array Value} {t t' : TypeId} {fr fr' : Nat × Nat} (h1 : w.heap[i]? = some (.cells c t fr)) (h2 : w.heap[j]? = some (.cells c' t' fr')) (ht : t ≠ t') : (some i : Option Nat) ≠ some j := by
  intro e
  injection e with e
  subst e
  rw [h1] at h2
  injection h2 with h2
  injection h2 with _ h2
  exact ht h2
/-- nothing below base turns, and no bytes anywhere. -/
def Still8 (base : Nat) (w w' : World) : Prop := Below base w w' ∧ ∀ j off v, w.cell? ⟨j, off, none⟩ = some (.int .u8 v) → w'.heap[j]? = w.heap[j]?
theorem Still8.refl (base : Nat) (w : World) : Still8 base w w := ⟨Below.refl _ _, fun _ _ _ _ => rfl⟩
theorem Still8.trans {base : Nat} {a b c : World} (h : Still8 base a b) (k : Still8 base b c) : Still8 base a c := by
  refine ⟨h.1.trans k.1, fun j off v hc => ?_⟩
  have e := h.2 j off v hc
  exact (k.2 j off v ((World.cell?_of_block (a := ⟨j, off, none⟩) e).trans hc)).trans e
theorem Still8.of_below {base : Nat} {w w' : World} (h : Below w.heap.size w w') (hb : base ≤ w.heap.size) : Still8 base w w' := ⟨h.mono hb, fun j _ _ hc => h.block j (block_lt_of_cell hc)⟩
theorem FD.still8 {base : Nat} {x : Option Nat} {w w' : World} (h : FD base x w w') : Still8 base w w' := ⟨h.below, h.u8⟩
theorem FR.still8 {base : Nat} {x : Option Nat} {w w' : World} (h : FR base x w w') : Still8 base w w' := ⟨h.below, h.u8⟩
section
variable {p d mb r base q k : Nat} {g : Sig} {Lo : Option LSig} {lv mv : Value} {w : World} {x : ActL}
set_option maxRecDepth 100000 in
theorem pact_none0 (hk : x.kind = 0) (h : PairAt w p d mb r base q k g none (.pointer none) (.pointer none)) (hq : q + x.bn + 13 ≤ 4294967296) (hx : True) :
    Calls Tryz.prog 7 #[.pointer (some ⟨p, 0, none⟩), .agg x.row] w fun e w' => PActR p d mb r base q k w e w' := by
  obtain ⟨xk, xs, xe, nm, ba, bn, bc, B⟩ := x
  dsimp only at hk hq hx ⊢
  obtain rfl : xk = 0 := hk
  obtain ⟨xe3, hwe⟩ : ∃ y, IntKind.i64.wrap (xe + 3) = y := ⟨_, rfl⟩
  change Calls Tryz.prog 7 #[.pointer (some ⟨p, 0, none⟩), .agg #[.int .i64 0, .int .i64 xs, .int .i64 xe, .string nm, .slice ba bn bc]] w _
  have hb1 : Below w.heap.size w (w.alloc (.cells #[.int .i64 0, .int .i64 xs, .int .i64 xe, .string nm, .slice ba bn bc] 38)) := (Below.refl _ _).alloc (Nat.le_refl _) _
  have hbx := heap_alloc_new w (.cells #[.int .i64 0, .int .i64 xs, .int .i64 xe, .string nm, .slice ba bn bc] 38)
  generalize hW1 : w.alloc (.cells #[.int .i64 0, .int .i64 xs, .int .i64 xe, .string nm, .slice ba bn bc] 38) = W1 at hb1 hbx
  have hb2 : Below W1.heap.size W1 (W1.alloc (.cells #[.int .i64 xe, .int .i64 xe3, .int .i64 xe, .int .i64 1] 3)) := (Below.refl _ _).alloc (Nat.le_refl _) _
  generalize hW : W1.alloc (.cells #[.int .i64 xe, .int .i64 xe3, .int .i64 xe, .int .i64 1] 3) = W at hb2
  have hbw : Below w.heap.size w W := hb1.trans (hb2.mono hb1.size)
  have hbxW := (hb2.block _ (heap_lt hbx)).trans hbx
  have c2 : W1.cell? ⟨w.heap.size, 2, none⟩ = some (.int .i64 xe) := by simp only [World.cell?, hbx]; rfl
  have d0 : W.cell? ⟨w.heap.size, 0, none⟩ = some (.int .i64 0) := by simp only [World.cell?, hbxW]; rfl
  have d4 : W.cell? ⟨w.heap.size, 4, none⟩ = some (.slice ba bn bc) := by simp only [World.cell?, hbxW]; rfl
  have p3 := (h.later hbw).cells.2.2.2
  have HA := Lib.hid (show PActR p d mb r base q k w (.returned (.bool true)) W from ⟨rfl, ⟨g, none, _, _, h.later hbw⟩, hbw.mono h.hb⟩)
  clear h hbw hbxW hb1 hb2 hbx hq d4 hx
  go_enter Tryz.func7, Tryz.ntmps7
  go_wp2_with fail
  go_ret
  exact HA.out
set_option maxRecDepth 100000 in
set_option maxHeartbeats 1000000 in
theorem pact_add0 {L : LSig} {l m : Nat} (hk : x.kind = 0) (h : PairAt w p d mb r base q k g (some L) (.pointer (some ⟨l, 0, none⟩)) (.pointer (some ⟨m, 0, none⟩))) (hq : q + x.bn + 13 ≤ 4294967296) (hk9 : k + 2 ≤ 100000) (hx : ∀ w', Still8 base w w' → IsBytes w' x.ba x.bn x.bc x.B) :
    Calls Tryz.prog 7 #[.pointer (some ⟨p, 0, none⟩), .agg x.row] w fun e w' => PActR p d mb r base (q + x.bn + 13) (k + 2) w e w' := by
  obtain ⟨xk, xs, xe, nm, ba, bn, bc, B⟩ := x
  dsimp only at hk hq hx ⊢
  obtain rfl : xk = 0 := hk
  obtain ⟨xe3, hwe⟩ : ∃ y, IntKind.i64.wrap (xe + 3) = y := ⟨_, rfl⟩
  change Calls Tryz.prog 7 #[.pointer (some ⟨p, 0, none⟩), .agg #[.int .i64 0, .int .i64 xs, .int .i64 xe, .string nm, .slice ba bn bc]] w _
  have hb1 : Below w.heap.size w (w.alloc (.cells #[.int .i64 0, .int .i64 xs, .int .i64 xe, .string nm, .slice ba bn bc] 38)) := (Below.refl _ _).alloc (Nat.le_refl _) _
  have hbx := heap_alloc_new w (.cells #[.int .i64 0, .int .i64 xs, .int .i64 xe, .string nm, .slice ba bn bc] 38)
  generalize hW1 : w.alloc (.cells #[.int .i64 0, .int .i64 xs, .int .i64 xe, .string nm, .slice ba bn bc] 38) = W1 at hb1 hbx
  have hb2 : Below W1.heap.size W1 (W1.alloc (.cells #[.int .i64 xe, .int .i64 xe3, .int .i64 xe, .int .i64 1] 3)) := (Below.refl _ _).alloc (Nat.le_refl _) _
  generalize hW : W1.alloc (.cells #[.int .i64 xe, .int .i64 xe3, .int .i64 xe, .int .i64 1] 3) = W at hb2
  have hbw : Below w.heap.size w W := hb1.trans (hb2.mono hb1.size)
  have hbxW := (hb2.block _ (heap_lt hbx)).trans hbx
  have c2 : W1.cell? ⟨w.heap.size, 2, none⟩ = some (.int .i64 xe) := by simp only [World.cell?, hbx]; rfl
  have d0 : W.cell? ⟨w.heap.size, 0, none⟩ = some (.int .i64 0) := by simp only [World.cell?, hbxW]; rfl
  have d4 : W.cell? ⟨w.heap.size, 4, none⟩ = some (.slice ba bn bc) := by simp only [World.cell?, hbxW]; rfl
  obtain ⟨bx, hbe⟩ : ∃ b, b = w.heap.size := ⟨_, rfl⟩
  rw [← hbe] at hbxW
  have hBX : BoxL bx ⟨0, xs, xe, nm, ba, bn, bc, B⟩ W := hbxW
  have hBl : B.length = bn := (hx w (Still8.refl _ _)).1
  obtain ⟨z, L', g', hzg⟩ : ∃ z L' g', addG B L g = (z, L', g') := ⟨_, _, _, rfl⟩
  obtain ⟨hlim', hllim'⟩ : Lim (q + bn + 13) (k + 2) g' ∧ L'.nm = L.nm ∧ ∀ (hLl : LLim q L), LLim (q + bn + 13) L' := by
    refine ⟨?_, ?_, fun hLl => ?_⟩
    · obtain ⟨L0, l0, m0, e1, _, _, _, _, _, _, e8, _⟩ := h.led.resolve_left (by rintro ⟨e, _⟩; cases e)
      injection e1 with e1
      subst e1
      have := (addG_lim (B := B) (q' := q + bn + 13) (k' := k + 2) h.lim e8 (by omega) (by omega)).1
      rw [hzg] at this
      exact this
    · have := addG_nm B L g
      rw [hzg] at this
      exact this
    · have := (addG_lim (B := B) (q' := q + bn + 13) (k' := k + 2) h.lim hLl (by omega) (by omega)).2
      rw [hzg] at this
      exact this
  have HX := Lib.hid (fun w' (hb : Still8 base W w') => hx w' ((Still8.of_below hbw h.hb).trans hb))
  have HA := Lib.hid (And.intro (h.later hbw) (And.intro (hbw.mono h.hb) hBX))
  have HF := Lib.hid h.fit
  have HZ := Lib.hid (And.intro hzg (And.intro hlim' hllim'))
  have HQ := Lib.hid (And.intro hq (And.intro hk9 hBl))
  have hzz : (z == z) = true := by simp
  have p2 := (h.later hbw).cells.2.2.1
  have p3 := (h.later hbw).cells.2.2.2
  have HBE := Lib.hid hbe
  clear h hbw hbxW hb1 hb2 hbx hq hk9 hbe hBX hzg hx hlim' hllim' hBl
  go_enter Tryz.func7, Tryz.ntmps7
  go_wp2_with fail
  refine (LentBytes_any ba bn bc B W (HX.out W (Still8.refl _ _)) (by have := HQ.out.1; omega)).mono ?_
  rintro e W2 ⟨gi, rfl, hg1, hlc, hb1⟩
  have hA2 := HA.out.1.later hb1
  have hS2 : SideL p #[.pointer (some ⟨d, 0, none⟩), .pointer (some ⟨r, 0, none⟩), .pointer (some ⟨l, 0, none⟩), .pointer (some ⟨m, 0, none⟩)] bx ⟨0, xs, xe, nm, ba, bn, bc, B⟩ W2 := ⟨hA2.row, (hb1.block _ (heap_lt HA.out.2.2)).trans HA.out.2.2⟩
  obtain ⟨L0, l0, m0, e1, e2, e3, hl4, hm4, hlr, hmr, hLl, hnm⟩ := hA2.led.resolve_left (by rintro ⟨e, _⟩; cases e)
  obtain rfl : L = L0 := by injection e1
  obtain rfl : l = l0 := by injection e2 with e2; injection e2 with e2; injection e2
  obtain rfl : m = m0 := by injection e3 with e3; injection e3 with e3; injection e3
  have HP := Lib.hid (And.intro hA2 (And.intro (HA.out.2.1.trans (hb1.mono HA.out.1.hb)) (And.intro (Still8.of_below hb1 HA.out.1.hb) (And.intro hLl hnm))))
  have HPD := Lib.hid (And.intro (hA2.later (Below.refl W2.heap.size W2).drew) (And.intro (show SideL p #[.pointer (some ⟨d, 0, none⟩), .pointer (some ⟨r, 0, none⟩), .pointer (some ⟨l, 0, none⟩), .pointer (some ⟨m, 0, none⟩)] bx ⟨0, xs, xe, nm, ba, bn, bc, B⟩ W2.drew from hS2) (And.intro (show W2.drew.heap[gi]? = some (.cells (u8s (lentA B 3)).toArray 5 (0, 0)) from hlc) (And.intro (show LedRow W2.drew l d L.nm L.n L.size L.br from hlr) (And.intro (show RLedRow W2.drew m r L.nm L.n L.size L.br from hmr) (And.intro hl4 hm4))))))
  have e4 : W2.cell? ⟨bx, 4, none⟩ = some (.slice ba bn bc) := hS2.2.cells.2.2.2.2
  have q2 := hS2.cells.2.2.1
  have q3 := hS2.cells.2.2.2
  clear hg1 hlc hb1 hA2 hS2 hl4 hm4 hlr hmr hLl hnm d0 c2 d4 p2 p3 e1 e2 e3
  go_wp2_with fail
  rw [← HBE.out]
  go_region_held3 (fun w' => w'.cell? ⟨p, 2, none⟩ = some (.pointer (some ⟨l, 0, none⟩)) ∧ w'.cell? ⟨p, 3, none⟩ = some (.pointer (some ⟨m, 0, none⟩)) ∧ w'.cell? ⟨bx, 4, none⟩ = some (.slice ba bn bc))
    (first
      | (exact ⟨q2, q3, e4⟩)
      | (exact ⟨hB3.cells.2.2.1, hB3.cells.2.2.2, hB3.2.cells.2.2.2.2⟩)
      | (exact ⟨hB2.cells.2.2.1, hB2.cells.2.2.2, hB2.2.cells.2.2.2.2⟩)
      | (exact ⟨hB1.cells.2.2.1, hB1.cells.2.2.2, hB1.2.cells.2.2.2.2⟩))
    (first
      | (go_at_call 13
         refine (@Add_S Z0 base d mb l q k L g _ bn (bn + 3) B _ HP.out.2.2.2.2 HPD.out.1.hb HPD.out.2.2.2.2.2.1 HPD.out.2.2.2.1 HPD.out.1.ds (lent_reads HQ.out.2.2 (by have := HQ.out; omega) HPD.out.2.2.1) HPD.out.1.lim HP.out.2.2.2.1 (by have := HQ.out; omega) (by have := HQ.out; omega)).mono ?_
         rintro e w1 ⟨rfl, hd1, hl1, hf1⟩
         rw [HZ.out.1] at hd1 hl1
         rw [HZ.out.1]
         dsimp only at hd1 hl1
         have hr1 : @RSig Z0 w1 r base g := @RSig.fd Z0 _ _ _ _ _ _ _ HPD.out.1.rs hf1 (led_else HPD.out.2.2.2.1)
         have hm1 : RLedRow w1 m r L.nm L.n L.size L.br := hf1.cells _ _ _ _ HPD.out.2.2.2.2.1 (by unfold TD; decide) (ne_of_types HPD.out.2.2.2.1 HPD.out.2.2.2.2.1 (by decide))
         have hB1 : SideL p #[.pointer (some ⟨d, 0, none⟩), .pointer (some ⟨r, 0, none⟩), .pointer (some ⟨l, 0, none⟩), .pointer (some ⟨m, 0, none⟩)] bx ⟨0, xs, xe, nm, ba, bn, bc, B⟩ w1 := HPD.out.2.1.fd hf1 (ne_of_types HPD.out.2.2.2.1 HPD.out.2.1.1 (by decide)) (ne_of_types HPD.out.2.2.2.1 HPD.out.2.1.2 (by decide))
         have hg1 : w1.heap[gi]? = some (.cells (u8s (lentA B 3)).toArray 5 (0, 0)) := hf1.cells _ _ _ _ HPD.out.2.2.1 (by unfold TD; decide) (ne_of_types HPD.out.2.2.2.1 HPD.out.2.2.1 (by decide))
         have hbb1 : Still8 base W w1 := (HP.out.2.2.1.trans (show Still8 base W2 W2.drew from ⟨(Below.refl base W2).drew, fun _ _ _ _ => rfl⟩)).trans hf1.still8)
      | (go_at_call 14
         refine (@rAdd_S Z0 base r m q k L g ba bn bc B _ HP.out.2.2.2.2 HPD.out.2.2.2.2.2.2 hm1 hr1 (fun _ hk => hk.elim) (HX.out _ hbb1) HPD.out.1.lim HF.out HP.out.2.2.2.1 (by have := HQ.out; omega) (by have := HQ.out; omega)).mono ?_
         rintro e w2 ⟨rfl, hr2, hm2, hf2⟩
         rw [HZ.out.1] at hr2 hm2
         rw [HZ.out.1]
         dsimp only at hr2 hm2
         have hd2 : @DSig Z0 w2 d mb base g' := @DSig.fr Z0 _ _ _ _ _ _ _ _ hd1 hf2 (rled_else hm1)
         have hl2 : LedRow w2 l d L'.nm L'.n L'.size L'.br := hf2.cells _ _ _ _ hl1 (by unfold TR; decide) (ne_of_types hm1 hl1 (by decide))
         have hB2 : SideL p #[.pointer (some ⟨d, 0, none⟩), .pointer (some ⟨r, 0, none⟩), .pointer (some ⟨l, 0, none⟩), .pointer (some ⟨m, 0, none⟩)] bx ⟨0, xs, xe, nm, ba, bn, bc, B⟩ w2 := hB1.fr hf2 (ne_of_types hm1 hB1.1 (by decide)) (ne_of_types hm1 hB1.2 (by decide))
         have hg2 : w2.heap[gi]? = some (.cells (u8s (lentA B 3)).toArray 5 (0, 0)) := hf2.cells _ _ _ _ hg1 (by unfold TR; decide) (ne_of_types hm1 hg1 (by decide))
         have hbb2 := hbb1.trans hf2.still8)
      | (go_at_call 15
         refine (KeptBytes_any gi bn (lentA B 3) ba bc B _ hg2 (by rw [lentA_length, HQ.out.2.2]) (HX.out _ hbb2) (by have := HQ.out; omega)).mono ?_
         rintro e w3 ⟨rfl, hb3⟩
         have hB3 : SideL p #[.pointer (some ⟨d, 0, none⟩), .pointer (some ⟨r, 0, none⟩), .pointer (some ⟨l, 0, none⟩), .pointer (some ⟨m, 0, none⟩)] bx ⟨0, xs, xe, nm, ba, bn, bc, B⟩ w3 := ⟨(hb3.block _ (heap_lt hB2.1)).trans hB2.1, (hb3.block _ (heap_lt hB2.2)).trans hB2.2⟩
         rw [show (lentA B 3 == lentA B 3) = true by simp]))
  all_goals
    have hsz : base ≤ w2.heap.size := Nat.le_trans HA.out.1.hb hbb2.1.size
    have hend : PairAt w3 p d mb r base (q + bn + 13) (k + 2) g' (some L') (.pointer (some ⟨l, 0, none⟩)) (.pointer (some ⟨m, 0, none⟩)) :=
      ⟨hB3.1, HA.out.1.hp, @DSig.later Z0 _ _ _ _ _ _ hd2 hb3, @RSig.later Z0 _ _ _ _ _ hr2 hb3, HZ.out.2.1, Nat.le_trans hsz hb3.size, .inr ⟨L', l, m, rfl, rfl, rfl, HPD.out.2.2.2.2.2.1, HPD.out.2.2.2.2.2.2, hl2.later hb3, hm2.later hb3, HZ.out.2.2.2 HP.out.2.2.2.1, by rw [HZ.out.2.2.1]; exact HP.out.2.2.2.2⟩⟩
    have HF2 := Lib.hid (And.intro hend ((HA.out.2.1.trans hbb2.1).trans (hb3.mono hsz)))
    clear hd1 hl1 hf1 hr1 hm1 hB1 hg1 hbb1 hr2 hm2 hf2 hd2 hl2 hB2 hg2 hbb2 hb3 hB3 hsz hend
    go_wp2_with fail
    go_ret
    exact ⟨rfl, ⟨_, _, _, _, HF2.out.1⟩, HF2.out.2⟩
set_option maxRecDepth 100000 in
theorem pact_none1 (hk : x.kind = 1) (h : PairAt w p d mb r base q k g none (.pointer none) (.pointer none)) (hq : q + x.bn + 13 ≤ 4294967296) (hx : True) :
    Calls Tryz.prog 7 #[.pointer (some ⟨p, 0, none⟩), .agg x.row] w fun e w' => PActR p d mb r base q k w e w' := by
  obtain ⟨xk, xs, xe, nm, ba, bn, bc, B⟩ := x
  dsimp only at hk hq hx ⊢
  obtain rfl : xk = 1 := hk
  obtain ⟨xe3, hwe⟩ : ∃ y, IntKind.i64.wrap (xe + 3) = y := ⟨_, rfl⟩
  change Calls Tryz.prog 7 #[.pointer (some ⟨p, 0, none⟩), .agg #[.int .i64 1, .int .i64 xs, .int .i64 xe, .string nm, .slice ba bn bc]] w _
  have hb1 : Below w.heap.size w (w.alloc (.cells #[.int .i64 1, .int .i64 xs, .int .i64 xe, .string nm, .slice ba bn bc] 38)) := (Below.refl _ _).alloc (Nat.le_refl _) _
  have hbx := heap_alloc_new w (.cells #[.int .i64 1, .int .i64 xs, .int .i64 xe, .string nm, .slice ba bn bc] 38)
  generalize hW1 : w.alloc (.cells #[.int .i64 1, .int .i64 xs, .int .i64 xe, .string nm, .slice ba bn bc] 38) = W1 at hb1 hbx
  have hb2 : Below W1.heap.size W1 (W1.alloc (.cells #[.int .i64 xe, .int .i64 xe3, .int .i64 xe, .int .i64 1] 3)) := (Below.refl _ _).alloc (Nat.le_refl _) _
  generalize hW : W1.alloc (.cells #[.int .i64 xe, .int .i64 xe3, .int .i64 xe, .int .i64 1] 3) = W at hb2
  have hbw : Below w.heap.size w W := hb1.trans (hb2.mono hb1.size)
  have hbxW := (hb2.block _ (heap_lt hbx)).trans hbx
  have c2 : W1.cell? ⟨w.heap.size, 2, none⟩ = some (.int .i64 xe) := by simp only [World.cell?, hbx]; rfl
  have d0 : W.cell? ⟨w.heap.size, 0, none⟩ = some (.int .i64 1) := by simp only [World.cell?, hbxW]; rfl
  have d4 : W.cell? ⟨w.heap.size, 4, none⟩ = some (.slice ba bn bc) := by simp only [World.cell?, hbxW]; rfl
  have p3 := (h.later hbw).cells.2.2.2
  have HA := Lib.hid (show PActR p d mb r base q k w (.returned (.bool true)) W from ⟨rfl, ⟨g, none, _, _, h.later hbw⟩, hbw.mono h.hb⟩)
  clear h hbw hbxW hb1 hb2 hbx hq d4 hx
  go_enter Tryz.func7, Tryz.ntmps7
  go_wp2_with fail
  go_ret
  exact HA.out
set_option maxRecDepth 100000 in
set_option maxHeartbeats 1000000 in
theorem pact_add1 {L : LSig} {l m : Nat} (hk : x.kind = 1) (h : PairAt w p d mb r base q k g (some L) (.pointer (some ⟨l, 0, none⟩)) (.pointer (some ⟨m, 0, none⟩))) (hq : q + x.bn + 13 ≤ 4294967296) (hk9 : k + 2 ≤ 100000) (hx : ∀ w', Still8 base w w' → IsBytes w' x.ba x.bn x.bc x.B) :
    Calls Tryz.prog 7 #[.pointer (some ⟨p, 0, none⟩), .agg x.row] w fun e w' => PActR p d mb r base (q + x.bn + 13) (k + 2) w e w' := by
  obtain ⟨xk, xs, xe, nm, ba, bn, bc, B⟩ := x
  dsimp only at hk hq hx ⊢
  obtain rfl : xk = 1 := hk
  obtain ⟨xe3, hwe⟩ : ∃ y, IntKind.i64.wrap (xe + 3) = y := ⟨_, rfl⟩
  change Calls Tryz.prog 7 #[.pointer (some ⟨p, 0, none⟩), .agg #[.int .i64 1, .int .i64 xs, .int .i64 xe, .string nm, .slice ba bn bc]] w _
  have hb1 : Below w.heap.size w (w.alloc (.cells #[.int .i64 1, .int .i64 xs, .int .i64 xe, .string nm, .slice ba bn bc] 38)) := (Below.refl _ _).alloc (Nat.le_refl _) _
  have hbx := heap_alloc_new w (.cells #[.int .i64 1, .int .i64 xs, .int .i64 xe, .string nm, .slice ba bn bc] 38)
  generalize hW1 : w.alloc (.cells #[.int .i64 1, .int .i64 xs, .int .i64 xe, .string nm, .slice ba bn bc] 38) = W1 at hb1 hbx
  have hb2 : Below W1.heap.size W1 (W1.alloc (.cells #[.int .i64 xe, .int .i64 xe3, .int .i64 xe, .int .i64 1] 3)) := (Below.refl _ _).alloc (Nat.le_refl _) _
  generalize hW : W1.alloc (.cells #[.int .i64 xe, .int .i64 xe3, .int .i64 xe, .int .i64 1] 3) = W at hb2
  have hbw : Below w.heap.size w W := hb1.trans (hb2.mono hb1.size)
  have hbxW := (hb2.block _ (heap_lt hbx)).trans hbx
  have c2 : W1.cell? ⟨w.heap.size, 2, none⟩ = some (.int .i64 xe) := by simp only [World.cell?, hbx]; rfl
  have d0 : W.cell? ⟨w.heap.size, 0, none⟩ = some (.int .i64 1) := by simp only [World.cell?, hbxW]; rfl
  have d4 : W.cell? ⟨w.heap.size, 4, none⟩ = some (.slice ba bn bc) := by simp only [World.cell?, hbxW]; rfl
  obtain ⟨bx, hbe⟩ : ∃ b, b = w.heap.size := ⟨_, rfl⟩
  rw [← hbe] at hbxW
  have hBX : BoxL bx ⟨1, xs, xe, nm, ba, bn, bc, B⟩ W := hbxW
  have hBl : B.length = bn := (hx w (Still8.refl _ _)).1
  obtain ⟨z, L', g', hzg⟩ : ∃ z L' g', addG B L g = (z, L', g') := ⟨_, _, _, rfl⟩
  obtain ⟨hlim', hllim'⟩ : Lim (q + bn + 13) (k + 2) g' ∧ L'.nm = L.nm ∧ ∀ (hLl : LLim q L), LLim (q + bn + 13) L' := by
    refine ⟨?_, ?_, fun hLl => ?_⟩
    · obtain ⟨L0, l0, m0, e1, _, _, _, _, _, _, e8, _⟩ := h.led.resolve_left (by rintro ⟨e, _⟩; cases e)
      injection e1 with e1
      subst e1
      have := (addG_lim (B := B) (q' := q + bn + 13) (k' := k + 2) h.lim e8 (by omega) (by omega)).1
      rw [hzg] at this
      exact this
    · have := addG_nm B L g
      rw [hzg] at this
      exact this
    · have := (addG_lim (B := B) (q' := q + bn + 13) (k' := k + 2) h.lim hLl (by omega) (by omega)).2
      rw [hzg] at this
      exact this
  have HX := Lib.hid (fun w' (hb : Still8 base W w') => hx w' ((Still8.of_below hbw h.hb).trans hb))
  have HA := Lib.hid (And.intro (h.later hbw) (And.intro (hbw.mono h.hb) hBX))
  have HF := Lib.hid h.fit
  have HZ := Lib.hid (And.intro hzg (And.intro hlim' hllim'))
  have HQ := Lib.hid (And.intro hq (And.intro hk9 hBl))
  have hzz : (z == z) = true := by simp
  have p2 := (h.later hbw).cells.2.2.1
  have p3 := (h.later hbw).cells.2.2.2
  have HBE := Lib.hid hbe
  clear h hbw hbxW hb1 hb2 hbx hq hk9 hbe hBX hzg hx hlim' hllim' hBl
  go_enter Tryz.func7, Tryz.ntmps7
  go_wp2_with fail
  refine (LentBytes_any ba bn bc B W (HX.out W (Still8.refl _ _)) (by have := HQ.out.1; omega)).mono ?_
  rintro e W2 ⟨gi, rfl, hg1, hlc, hb1⟩
  have hA2 := HA.out.1.later hb1
  have hS2 : SideL p #[.pointer (some ⟨d, 0, none⟩), .pointer (some ⟨r, 0, none⟩), .pointer (some ⟨l, 0, none⟩), .pointer (some ⟨m, 0, none⟩)] bx ⟨1, xs, xe, nm, ba, bn, bc, B⟩ W2 := ⟨hA2.row, (hb1.block _ (heap_lt HA.out.2.2)).trans HA.out.2.2⟩
  obtain ⟨L0, l0, m0, e1, e2, e3, hl4, hm4, hlr, hmr, hLl, hnm⟩ := hA2.led.resolve_left (by rintro ⟨e, _⟩; cases e)
  obtain rfl : L = L0 := by injection e1
  obtain rfl : l = l0 := by injection e2 with e2; injection e2 with e2; injection e2
  obtain rfl : m = m0 := by injection e3 with e3; injection e3 with e3; injection e3
  have HP := Lib.hid (And.intro hA2 (And.intro (HA.out.2.1.trans (hb1.mono HA.out.1.hb)) (And.intro (Still8.of_below hb1 HA.out.1.hb) (And.intro hLl hnm))))
  have HPD := Lib.hid (And.intro (hA2.later (Below.refl W2.heap.size W2).drew) (And.intro (show SideL p #[.pointer (some ⟨d, 0, none⟩), .pointer (some ⟨r, 0, none⟩), .pointer (some ⟨l, 0, none⟩), .pointer (some ⟨m, 0, none⟩)] bx ⟨1, xs, xe, nm, ba, bn, bc, B⟩ W2.drew from hS2) (And.intro (show W2.drew.heap[gi]? = some (.cells (u8s (lentA B 3)).toArray 5 (0, 0)) from hlc) (And.intro (show LedRow W2.drew l d L.nm L.n L.size L.br from hlr) (And.intro (show RLedRow W2.drew m r L.nm L.n L.size L.br from hmr) (And.intro hl4 hm4))))))
  have e4 : W2.cell? ⟨bx, 4, none⟩ = some (.slice ba bn bc) := hS2.2.cells.2.2.2.2
  have q2 := hS2.cells.2.2.1
  have q3 := hS2.cells.2.2.2
  clear hg1 hlc hb1 hA2 hS2 hl4 hm4 hlr hmr hLl hnm d0 c2 d4 p2 p3 e1 e2 e3
  go_wp2_with fail
  rw [← HBE.out]
  go_region_held3 (fun w' => w'.cell? ⟨p, 2, none⟩ = some (.pointer (some ⟨l, 0, none⟩)) ∧ w'.cell? ⟨p, 3, none⟩ = some (.pointer (some ⟨m, 0, none⟩)) ∧ w'.cell? ⟨bx, 4, none⟩ = some (.slice ba bn bc))
    (first
      | (exact ⟨q2, q3, e4⟩)
      | (exact ⟨hB3.cells.2.2.1, hB3.cells.2.2.2, hB3.2.cells.2.2.2.2⟩)
      | (exact ⟨hB2.cells.2.2.1, hB2.cells.2.2.2, hB2.2.cells.2.2.2.2⟩)
      | (exact ⟨hB1.cells.2.2.1, hB1.cells.2.2.2, hB1.2.cells.2.2.2.2⟩))
    (first
      | (go_at_call 13
         refine (@Add_S Z0 base d mb l q k L g _ bn (bn + 3) B _ HP.out.2.2.2.2 HPD.out.1.hb HPD.out.2.2.2.2.2.1 HPD.out.2.2.2.1 HPD.out.1.ds (lent_reads HQ.out.2.2 (by have := HQ.out; omega) HPD.out.2.2.1) HPD.out.1.lim HP.out.2.2.2.1 (by have := HQ.out; omega) (by have := HQ.out; omega)).mono ?_
         rintro e w1 ⟨rfl, hd1, hl1, hf1⟩
         rw [HZ.out.1] at hd1 hl1
         rw [HZ.out.1]
         dsimp only at hd1 hl1
         have hr1 : @RSig Z0 w1 r base g := @RSig.fd Z0 _ _ _ _ _ _ _ HPD.out.1.rs hf1 (led_else HPD.out.2.2.2.1)
         have hm1 : RLedRow w1 m r L.nm L.n L.size L.br := hf1.cells _ _ _ _ HPD.out.2.2.2.2.1 (by unfold TD; decide) (ne_of_types HPD.out.2.2.2.1 HPD.out.2.2.2.2.1 (by decide))
         have hB1 : SideL p #[.pointer (some ⟨d, 0, none⟩), .pointer (some ⟨r, 0, none⟩), .pointer (some ⟨l, 0, none⟩), .pointer (some ⟨m, 0, none⟩)] bx ⟨1, xs, xe, nm, ba, bn, bc, B⟩ w1 := HPD.out.2.1.fd hf1 (ne_of_types HPD.out.2.2.2.1 HPD.out.2.1.1 (by decide)) (ne_of_types HPD.out.2.2.2.1 HPD.out.2.1.2 (by decide))
         have hg1 : w1.heap[gi]? = some (.cells (u8s (lentA B 3)).toArray 5 (0, 0)) := hf1.cells _ _ _ _ HPD.out.2.2.1 (by unfold TD; decide) (ne_of_types HPD.out.2.2.2.1 HPD.out.2.2.1 (by decide))
         have hbb1 : Still8 base W w1 := (HP.out.2.2.1.trans (show Still8 base W2 W2.drew from ⟨(Below.refl base W2).drew, fun _ _ _ _ => rfl⟩)).trans hf1.still8)
      | (go_at_call 14
         refine (@rAdd_S Z0 base r m q k L g ba bn bc B _ HP.out.2.2.2.2 HPD.out.2.2.2.2.2.2 hm1 hr1 (fun _ hk => hk.elim) (HX.out _ hbb1) HPD.out.1.lim HF.out HP.out.2.2.2.1 (by have := HQ.out; omega) (by have := HQ.out; omega)).mono ?_
         rintro e w2 ⟨rfl, hr2, hm2, hf2⟩
         rw [HZ.out.1] at hr2 hm2
         rw [HZ.out.1]
         dsimp only at hr2 hm2
         have hd2 : @DSig Z0 w2 d mb base g' := @DSig.fr Z0 _ _ _ _ _ _ _ _ hd1 hf2 (rled_else hm1)
         have hl2 : LedRow w2 l d L'.nm L'.n L'.size L'.br := hf2.cells _ _ _ _ hl1 (by unfold TR; decide) (ne_of_types hm1 hl1 (by decide))
         have hB2 : SideL p #[.pointer (some ⟨d, 0, none⟩), .pointer (some ⟨r, 0, none⟩), .pointer (some ⟨l, 0, none⟩), .pointer (some ⟨m, 0, none⟩)] bx ⟨1, xs, xe, nm, ba, bn, bc, B⟩ w2 := hB1.fr hf2 (ne_of_types hm1 hB1.1 (by decide)) (ne_of_types hm1 hB1.2 (by decide))
         have hg2 : w2.heap[gi]? = some (.cells (u8s (lentA B 3)).toArray 5 (0, 0)) := hf2.cells _ _ _ _ hg1 (by unfold TR; decide) (ne_of_types hm1 hg1 (by decide))
         have hbb2 := hbb1.trans hf2.still8)
      | (go_at_call 15
         refine (KeptBytes_any gi bn (lentA B 3) ba bc B _ hg2 (by rw [lentA_length, HQ.out.2.2]) (HX.out _ hbb2) (by have := HQ.out; omega)).mono ?_
         rintro e w3 ⟨rfl, hb3⟩
         have hB3 : SideL p #[.pointer (some ⟨d, 0, none⟩), .pointer (some ⟨r, 0, none⟩), .pointer (some ⟨l, 0, none⟩), .pointer (some ⟨m, 0, none⟩)] bx ⟨1, xs, xe, nm, ba, bn, bc, B⟩ w3 := ⟨(hb3.block _ (heap_lt hB2.1)).trans hB2.1, (hb3.block _ (heap_lt hB2.2)).trans hB2.2⟩
         rw [show (lentA B 3 == lentA B 3) = true by simp]))
  all_goals
    have hsz : base ≤ w2.heap.size := Nat.le_trans HA.out.1.hb hbb2.1.size
    have hend : PairAt w3 p d mb r base (q + bn + 13) (k + 2) g' (some L') (.pointer (some ⟨l, 0, none⟩)) (.pointer (some ⟨m, 0, none⟩)) :=
      ⟨hB3.1, HA.out.1.hp, @DSig.later Z0 _ _ _ _ _ _ hd2 hb3, @RSig.later Z0 _ _ _ _ _ hr2 hb3, HZ.out.2.1, Nat.le_trans hsz hb3.size, .inr ⟨L', l, m, rfl, rfl, rfl, HPD.out.2.2.2.2.2.1, HPD.out.2.2.2.2.2.2, hl2.later hb3, hm2.later hb3, HZ.out.2.2.2 HP.out.2.2.2.1, by rw [HZ.out.2.2.1]; exact HP.out.2.2.2.2⟩⟩
    have HF2 := Lib.hid (And.intro hend ((HA.out.2.1.trans hbb2.1).trans (hb3.mono hsz)))
    clear hd1 hl1 hf1 hr1 hm1 hB1 hg1 hbb1 hr2 hm2 hf2 hd2 hl2 hB2 hg2 hbb2 hb3 hB3 hsz hend
    go_wp2_with fail
    go_ret
    exact ⟨rfl, ⟨_, _, _, _, HF2.out.1⟩, HF2.out.2⟩
set_option maxRecDepth 100000 in
theorem pact_none2 (hk : x.kind = 2) (h : PairAt w p d mb r base q k g none (.pointer none) (.pointer none)) (hq : q + x.bn + 13 ≤ 4294967296) (hx : True) :
    Calls Tryz.prog 7 #[.pointer (some ⟨p, 0, none⟩), .agg x.row] w fun e w' => PActR p d mb r base q k w e w' := by
  obtain ⟨xk, xs, xe, nm, ba, bn, bc, B⟩ := x
  dsimp only at hk hq hx ⊢
  obtain rfl : xk = 2 := hk
  obtain ⟨xe3, hwe⟩ : ∃ y, IntKind.i64.wrap (xe + 3) = y := ⟨_, rfl⟩
  change Calls Tryz.prog 7 #[.pointer (some ⟨p, 0, none⟩), .agg #[.int .i64 2, .int .i64 xs, .int .i64 xe, .string nm, .slice ba bn bc]] w _
  have hb1 : Below w.heap.size w (w.alloc (.cells #[.int .i64 2, .int .i64 xs, .int .i64 xe, .string nm, .slice ba bn bc] 38)) := (Below.refl _ _).alloc (Nat.le_refl _) _
  have hbx := heap_alloc_new w (.cells #[.int .i64 2, .int .i64 xs, .int .i64 xe, .string nm, .slice ba bn bc] 38)
  generalize hW1 : w.alloc (.cells #[.int .i64 2, .int .i64 xs, .int .i64 xe, .string nm, .slice ba bn bc] 38) = W1 at hb1 hbx
  have hb2 : Below W1.heap.size W1 (W1.alloc (.cells #[.int .i64 xe, .int .i64 xe3, .int .i64 xe, .int .i64 1] 3)) := (Below.refl _ _).alloc (Nat.le_refl _) _
  generalize hW : W1.alloc (.cells #[.int .i64 xe, .int .i64 xe3, .int .i64 xe, .int .i64 1] 3) = W at hb2
  have hbw : Below w.heap.size w W := hb1.trans (hb2.mono hb1.size)
  have hbxW := (hb2.block _ (heap_lt hbx)).trans hbx
  have c2 : W1.cell? ⟨w.heap.size, 2, none⟩ = some (.int .i64 xe) := by simp only [World.cell?, hbx]; rfl
  have d0 : W.cell? ⟨w.heap.size, 0, none⟩ = some (.int .i64 2) := by simp only [World.cell?, hbxW]; rfl
  have d4 : W.cell? ⟨w.heap.size, 4, none⟩ = some (.slice ba bn bc) := by simp only [World.cell?, hbxW]; rfl
  have p3 := (h.later hbw).cells.2.2.2
  have HA := Lib.hid (show PActR p d mb r base q k w (.returned (.bool true)) W from ⟨rfl, ⟨g, none, _, _, h.later hbw⟩, hbw.mono h.hb⟩)
  clear h hbw hbxW hb1 hb2 hbx hq d4 hx
  go_enter Tryz.func7, Tryz.ntmps7
  go_wp2_with fail
  go_ret
  exact HA.out
set_option maxRecDepth 100000 in
set_option maxHeartbeats 1000000 in
theorem pact_add2 {L : LSig} {l m : Nat} (hk : x.kind = 2) (h : PairAt w p d mb r base q k g (some L) (.pointer (some ⟨l, 0, none⟩)) (.pointer (some ⟨m, 0, none⟩))) (hq : q + x.bn + 13 ≤ 4294967296) (hk9 : k + 2 ≤ 100000) (hx : ∀ w', Still8 base w w' → IsBytes w' x.ba x.bn x.bc x.B) :
    Calls Tryz.prog 7 #[.pointer (some ⟨p, 0, none⟩), .agg x.row] w fun e w' => PActR p d mb r base (q + x.bn + 13) (k + 2) w e w' := by
  obtain ⟨xk, xs, xe, nm, ba, bn, bc, B⟩ := x
  dsimp only at hk hq hx ⊢
  obtain rfl : xk = 2 := hk
  obtain ⟨xe3, hwe⟩ : ∃ y, IntKind.i64.wrap (xe + 3) = y := ⟨_, rfl⟩
  change Calls Tryz.prog 7 #[.pointer (some ⟨p, 0, none⟩), .agg #[.int .i64 2, .int .i64 xs, .int .i64 xe, .string nm, .slice ba bn bc]] w _
  have hb1 : Below w.heap.size w (w.alloc (.cells #[.int .i64 2, .int .i64 xs, .int .i64 xe, .string nm, .slice ba bn bc] 38)) := (Below.refl _ _).alloc (Nat.le_refl _) _
  have hbx := heap_alloc_new w (.cells #[.int .i64 2, .int .i64 xs, .int .i64 xe, .string nm, .slice ba bn bc] 38)
  generalize hW1 : w.alloc (.cells #[.int .i64 2, .int .i64 xs, .int .i64 xe, .string nm, .slice ba bn bc] 38) = W1 at hb1 hbx
  have hb2 : Below W1.heap.size W1 (W1.alloc (.cells #[.int .i64 xe, .int .i64 xe3, .int .i64 xe, .int .i64 1] 3)) := (Below.refl _ _).alloc (Nat.le_refl _) _
  generalize hW : W1.alloc (.cells #[.int .i64 xe, .int .i64 xe3, .int .i64 xe, .int .i64 1] 3) = W at hb2
  have hbw : Below w.heap.size w W := hb1.trans (hb2.mono hb1.size)
  have hbxW := (hb2.block _ (heap_lt hbx)).trans hbx
  have c2 : W1.cell? ⟨w.heap.size, 2, none⟩ = some (.int .i64 xe) := by simp only [World.cell?, hbx]; rfl
  have d0 : W.cell? ⟨w.heap.size, 0, none⟩ = some (.int .i64 2) := by simp only [World.cell?, hbxW]; rfl
  have d4 : W.cell? ⟨w.heap.size, 4, none⟩ = some (.slice ba bn bc) := by simp only [World.cell?, hbxW]; rfl
  obtain ⟨bx, hbe⟩ : ∃ b, b = w.heap.size := ⟨_, rfl⟩
  rw [← hbe] at hbxW
  have hBX : BoxL bx ⟨2, xs, xe, nm, ba, bn, bc, B⟩ W := hbxW
  have hBl : B.length = bn := (hx w (Still8.refl _ _)).1
  obtain ⟨z, L', g', hzg⟩ : ∃ z L' g', addG B L g = (z, L', g') := ⟨_, _, _, rfl⟩
  obtain ⟨hlim', hllim'⟩ : Lim (q + bn + 13) (k + 2) g' ∧ L'.nm = L.nm ∧ ∀ (hLl : LLim q L), LLim (q + bn + 13) L' := by
    refine ⟨?_, ?_, fun hLl => ?_⟩
    · obtain ⟨L0, l0, m0, e1, _, _, _, _, _, _, e8, _⟩ := h.led.resolve_left (by rintro ⟨e, _⟩; cases e)
      injection e1 with e1
      subst e1
      have := (addG_lim (B := B) (q' := q + bn + 13) (k' := k + 2) h.lim e8 (by omega) (by omega)).1
      rw [hzg] at this
      exact this
    · have := addG_nm B L g
      rw [hzg] at this
      exact this
    · have := (addG_lim (B := B) (q' := q + bn + 13) (k' := k + 2) h.lim hLl (by omega) (by omega)).2
      rw [hzg] at this
      exact this
  have HX := Lib.hid (fun w' (hb : Still8 base W w') => hx w' ((Still8.of_below hbw h.hb).trans hb))
  have HA := Lib.hid (And.intro (h.later hbw) (And.intro (hbw.mono h.hb) hBX))
  have HF := Lib.hid h.fit
  have HZ := Lib.hid (And.intro hzg (And.intro hlim' hllim'))
  have HQ := Lib.hid (And.intro hq (And.intro hk9 hBl))
  have hzz : (z == z) = true := by simp
  have p2 := (h.later hbw).cells.2.2.1
  have p3 := (h.later hbw).cells.2.2.2
  have HBE := Lib.hid hbe
  clear h hbw hbxW hb1 hb2 hbx hq hk9 hbe hBX hzg hx hlim' hllim' hBl
  go_enter Tryz.func7, Tryz.ntmps7
  go_wp2_with fail
  refine (LentBytes_any ba bn bc B W (HX.out W (Still8.refl _ _)) (by have := HQ.out.1; omega)).mono ?_
  rintro e W2 ⟨gi, rfl, hg1, hlc, hb1⟩
  have hA2 := HA.out.1.later hb1
  have hS2 : SideL p #[.pointer (some ⟨d, 0, none⟩), .pointer (some ⟨r, 0, none⟩), .pointer (some ⟨l, 0, none⟩), .pointer (some ⟨m, 0, none⟩)] bx ⟨2, xs, xe, nm, ba, bn, bc, B⟩ W2 := ⟨hA2.row, (hb1.block _ (heap_lt HA.out.2.2)).trans HA.out.2.2⟩
  obtain ⟨L0, l0, m0, e1, e2, e3, hl4, hm4, hlr, hmr, hLl, hnm⟩ := hA2.led.resolve_left (by rintro ⟨e, _⟩; cases e)
  obtain rfl : L = L0 := by injection e1
  obtain rfl : l = l0 := by injection e2 with e2; injection e2 with e2; injection e2
  obtain rfl : m = m0 := by injection e3 with e3; injection e3 with e3; injection e3
  have HP := Lib.hid (And.intro hA2 (And.intro (HA.out.2.1.trans (hb1.mono HA.out.1.hb)) (And.intro (Still8.of_below hb1 HA.out.1.hb) (And.intro hLl hnm))))
  have HPD := Lib.hid (And.intro (hA2.later (Below.refl W2.heap.size W2).drew) (And.intro (show SideL p #[.pointer (some ⟨d, 0, none⟩), .pointer (some ⟨r, 0, none⟩), .pointer (some ⟨l, 0, none⟩), .pointer (some ⟨m, 0, none⟩)] bx ⟨2, xs, xe, nm, ba, bn, bc, B⟩ W2.drew from hS2) (And.intro (show W2.drew.heap[gi]? = some (.cells (u8s (lentA B 3)).toArray 5 (0, 0)) from hlc) (And.intro (show LedRow W2.drew l d L.nm L.n L.size L.br from hlr) (And.intro (show RLedRow W2.drew m r L.nm L.n L.size L.br from hmr) (And.intro hl4 hm4))))))
  have e4 : W2.cell? ⟨bx, 4, none⟩ = some (.slice ba bn bc) := hS2.2.cells.2.2.2.2
  have q2 := hS2.cells.2.2.1
  have q3 := hS2.cells.2.2.2
  clear hg1 hlc hb1 hA2 hS2 hl4 hm4 hlr hmr hLl hnm d0 c2 d4 p2 p3 e1 e2 e3
  go_wp2_with fail
  rw [← HBE.out]
  go_region_held3 (fun w' => w'.cell? ⟨p, 2, none⟩ = some (.pointer (some ⟨l, 0, none⟩)) ∧ w'.cell? ⟨p, 3, none⟩ = some (.pointer (some ⟨m, 0, none⟩)) ∧ w'.cell? ⟨bx, 4, none⟩ = some (.slice ba bn bc))
    (first
      | (exact ⟨q2, q3, e4⟩)
      | (exact ⟨hB3.cells.2.2.1, hB3.cells.2.2.2, hB3.2.cells.2.2.2.2⟩)
      | (exact ⟨hB2.cells.2.2.1, hB2.cells.2.2.2, hB2.2.cells.2.2.2.2⟩)
      | (exact ⟨hB1.cells.2.2.1, hB1.cells.2.2.2, hB1.2.cells.2.2.2.2⟩))
    (first
      | (go_at_call 13
         refine (@Add_S Z0 base d mb l q k L g _ bn (bn + 3) B _ HP.out.2.2.2.2 HPD.out.1.hb HPD.out.2.2.2.2.2.1 HPD.out.2.2.2.1 HPD.out.1.ds (lent_reads HQ.out.2.2 (by have := HQ.out; omega) HPD.out.2.2.1) HPD.out.1.lim HP.out.2.2.2.1 (by have := HQ.out; omega) (by have := HQ.out; omega)).mono ?_
         rintro e w1 ⟨rfl, hd1, hl1, hf1⟩
         rw [HZ.out.1] at hd1 hl1
         rw [HZ.out.1]
         dsimp only at hd1 hl1
         have hr1 : @RSig Z0 w1 r base g := @RSig.fd Z0 _ _ _ _ _ _ _ HPD.out.1.rs hf1 (led_else HPD.out.2.2.2.1)
         have hm1 : RLedRow w1 m r L.nm L.n L.size L.br := hf1.cells _ _ _ _ HPD.out.2.2.2.2.1 (by unfold TD; decide) (ne_of_types HPD.out.2.2.2.1 HPD.out.2.2.2.2.1 (by decide))
         have hB1 : SideL p #[.pointer (some ⟨d, 0, none⟩), .pointer (some ⟨r, 0, none⟩), .pointer (some ⟨l, 0, none⟩), .pointer (some ⟨m, 0, none⟩)] bx ⟨2, xs, xe, nm, ba, bn, bc, B⟩ w1 := HPD.out.2.1.fd hf1 (ne_of_types HPD.out.2.2.2.1 HPD.out.2.1.1 (by decide)) (ne_of_types HPD.out.2.2.2.1 HPD.out.2.1.2 (by decide))
         have hg1 : w1.heap[gi]? = some (.cells (u8s (lentA B 3)).toArray 5 (0, 0)) := hf1.cells _ _ _ _ HPD.out.2.2.1 (by unfold TD; decide) (ne_of_types HPD.out.2.2.2.1 HPD.out.2.2.1 (by decide))
         have hbb1 : Still8 base W w1 := (HP.out.2.2.1.trans (show Still8 base W2 W2.drew from ⟨(Below.refl base W2).drew, fun _ _ _ _ => rfl⟩)).trans hf1.still8)
      | (go_at_call 14
         refine (@rAdd_S Z0 base r m q k L g ba bn bc B _ HP.out.2.2.2.2 HPD.out.2.2.2.2.2.2 hm1 hr1 (fun _ hk => hk.elim) (HX.out _ hbb1) HPD.out.1.lim HF.out HP.out.2.2.2.1 (by have := HQ.out; omega) (by have := HQ.out; omega)).mono ?_
         rintro e w2 ⟨rfl, hr2, hm2, hf2⟩
         rw [HZ.out.1] at hr2 hm2
         rw [HZ.out.1]
         dsimp only at hr2 hm2
         have hd2 : @DSig Z0 w2 d mb base g' := @DSig.fr Z0 _ _ _ _ _ _ _ _ hd1 hf2 (rled_else hm1)
         have hl2 : LedRow w2 l d L'.nm L'.n L'.size L'.br := hf2.cells _ _ _ _ hl1 (by unfold TR; decide) (ne_of_types hm1 hl1 (by decide))
         have hB2 : SideL p #[.pointer (some ⟨d, 0, none⟩), .pointer (some ⟨r, 0, none⟩), .pointer (some ⟨l, 0, none⟩), .pointer (some ⟨m, 0, none⟩)] bx ⟨2, xs, xe, nm, ba, bn, bc, B⟩ w2 := hB1.fr hf2 (ne_of_types hm1 hB1.1 (by decide)) (ne_of_types hm1 hB1.2 (by decide))
         have hg2 : w2.heap[gi]? = some (.cells (u8s (lentA B 3)).toArray 5 (0, 0)) := hf2.cells _ _ _ _ hg1 (by unfold TR; decide) (ne_of_types hm1 hg1 (by decide))
         have hbb2 := hbb1.trans hf2.still8)
      | (go_at_call 15
         refine (KeptBytes_any gi bn (lentA B 3) ba bc B _ hg2 (by rw [lentA_length, HQ.out.2.2]) (HX.out _ hbb2) (by have := HQ.out; omega)).mono ?_
         rintro e w3 ⟨rfl, hb3⟩
         have hB3 : SideL p #[.pointer (some ⟨d, 0, none⟩), .pointer (some ⟨r, 0, none⟩), .pointer (some ⟨l, 0, none⟩), .pointer (some ⟨m, 0, none⟩)] bx ⟨2, xs, xe, nm, ba, bn, bc, B⟩ w3 := ⟨(hb3.block _ (heap_lt hB2.1)).trans hB2.1, (hb3.block _ (heap_lt hB2.2)).trans hB2.2⟩
         rw [show (lentA B 3 == lentA B 3) = true by simp]))
  all_goals
    have hsz : base ≤ w2.heap.size := Nat.le_trans HA.out.1.hb hbb2.1.size
    have hend : PairAt w3 p d mb r base (q + bn + 13) (k + 2) g' (some L') (.pointer (some ⟨l, 0, none⟩)) (.pointer (some ⟨m, 0, none⟩)) :=
      ⟨hB3.1, HA.out.1.hp, @DSig.later Z0 _ _ _ _ _ _ hd2 hb3, @RSig.later Z0 _ _ _ _ _ hr2 hb3, HZ.out.2.1, Nat.le_trans hsz hb3.size, .inr ⟨L', l, m, rfl, rfl, rfl, HPD.out.2.2.2.2.2.1, HPD.out.2.2.2.2.2.2, hl2.later hb3, hm2.later hb3, HZ.out.2.2.2 HP.out.2.2.2.1, by rw [HZ.out.2.2.1]; exact HP.out.2.2.2.2⟩⟩
    have HF2 := Lib.hid (And.intro hend ((HA.out.2.1.trans hbb2.1).trans (hb3.mono hsz)))
    clear hd1 hl1 hf1 hr1 hm1 hB1 hg1 hbb1 hr2 hm2 hf2 hd2 hl2 hB2 hg2 hbb2 hb3 hB3 hsz hend
    go_wp2_with fail
    go_ret
    exact ⟨rfl, ⟨_, _, _, _, HF2.out.1⟩, HF2.out.2⟩
set_option maxRecDepth 100000 in
theorem pact_none3 (hk : x.kind = 3) (h : PairAt w p d mb r base q k g none (.pointer none) (.pointer none)) (hq : q + x.bn + 13 ≤ 4294967296) (hx : True) :
    Calls Tryz.prog 7 #[.pointer (some ⟨p, 0, none⟩), .agg x.row] w fun e w' => PActR p d mb r base q k w e w' := by
  obtain ⟨xk, xs, xe, nm, ba, bn, bc, B⟩ := x
  dsimp only at hk hq hx ⊢
  obtain rfl : xk = 3 := hk
  obtain ⟨xe3, hwe⟩ : ∃ y, IntKind.i64.wrap (xe + 3) = y := ⟨_, rfl⟩
  change Calls Tryz.prog 7 #[.pointer (some ⟨p, 0, none⟩), .agg #[.int .i64 3, .int .i64 xs, .int .i64 xe, .string nm, .slice ba bn bc]] w _
  have hb1 : Below w.heap.size w (w.alloc (.cells #[.int .i64 3, .int .i64 xs, .int .i64 xe, .string nm, .slice ba bn bc] 38)) := (Below.refl _ _).alloc (Nat.le_refl _) _
  have hbx := heap_alloc_new w (.cells #[.int .i64 3, .int .i64 xs, .int .i64 xe, .string nm, .slice ba bn bc] 38)
  generalize hW1 : w.alloc (.cells #[.int .i64 3, .int .i64 xs, .int .i64 xe, .string nm, .slice ba bn bc] 38) = W1 at hb1 hbx
  have hb2 : Below W1.heap.size W1 (W1.alloc (.cells #[.int .i64 xe, .int .i64 xe3, .int .i64 xe, .int .i64 1] 3)) := (Below.refl _ _).alloc (Nat.le_refl _) _
  generalize hW : W1.alloc (.cells #[.int .i64 xe, .int .i64 xe3, .int .i64 xe, .int .i64 1] 3) = W at hb2
  have hbw : Below w.heap.size w W := hb1.trans (hb2.mono hb1.size)
  have hbxW := (hb2.block _ (heap_lt hbx)).trans hbx
  have c2 : W1.cell? ⟨w.heap.size, 2, none⟩ = some (.int .i64 xe) := by simp only [World.cell?, hbx]; rfl
  have d0 : W.cell? ⟨w.heap.size, 0, none⟩ = some (.int .i64 3) := by simp only [World.cell?, hbxW]; rfl
  have d4 : W.cell? ⟨w.heap.size, 4, none⟩ = some (.slice ba bn bc) := by simp only [World.cell?, hbxW]; rfl
  have p3 := (h.later hbw).cells.2.2.2
  have HA := Lib.hid (show PActR p d mb r base q k w (.returned (.bool true)) W from ⟨rfl, ⟨g, none, _, _, h.later hbw⟩, hbw.mono h.hb⟩)
  clear h hbw hbxW hb1 hb2 hbx hq d4 hx
  go_enter Tryz.func7, Tryz.ntmps7
  go_wp2_with fail
  go_ret
  exact HA.out
set_option maxRecDepth 100000 in
set_option maxHeartbeats 1000000 in
theorem pact_add3 {L : LSig} {l m : Nat} (hk : x.kind = 3) (h : PairAt w p d mb r base q k g (some L) (.pointer (some ⟨l, 0, none⟩)) (.pointer (some ⟨m, 0, none⟩))) (hq : q + x.bn + 13 ≤ 4294967296) (hk9 : k + 2 ≤ 100000) (hx : ∀ w', Still8 base w w' → IsBytes w' x.ba x.bn x.bc x.B) :
    Calls Tryz.prog 7 #[.pointer (some ⟨p, 0, none⟩), .agg x.row] w fun e w' => PActR p d mb r base (q + x.bn + 13) (k + 2) w e w' := by
  obtain ⟨xk, xs, xe, nm, ba, bn, bc, B⟩ := x
  dsimp only at hk hq hx ⊢
  obtain rfl : xk = 3 := hk
  obtain ⟨xe3, hwe⟩ : ∃ y, IntKind.i64.wrap (xe + 3) = y := ⟨_, rfl⟩
  change Calls Tryz.prog 7 #[.pointer (some ⟨p, 0, none⟩), .agg #[.int .i64 3, .int .i64 xs, .int .i64 xe, .string nm, .slice ba bn bc]] w _
  have hb1 : Below w.heap.size w (w.alloc (.cells #[.int .i64 3, .int .i64 xs, .int .i64 xe, .string nm, .slice ba bn bc] 38)) := (Below.refl _ _).alloc (Nat.le_refl _) _
  have hbx := heap_alloc_new w (.cells #[.int .i64 3, .int .i64 xs, .int .i64 xe, .string nm, .slice ba bn bc] 38)
  generalize hW1 : w.alloc (.cells #[.int .i64 3, .int .i64 xs, .int .i64 xe, .string nm, .slice ba bn bc] 38) = W1 at hb1 hbx
  have hb2 : Below W1.heap.size W1 (W1.alloc (.cells #[.int .i64 xe, .int .i64 xe3, .int .i64 xe, .int .i64 1] 3)) := (Below.refl _ _).alloc (Nat.le_refl _) _
  generalize hW : W1.alloc (.cells #[.int .i64 xe, .int .i64 xe3, .int .i64 xe, .int .i64 1] 3) = W at hb2
  have hbw : Below w.heap.size w W := hb1.trans (hb2.mono hb1.size)
  have hbxW := (hb2.block _ (heap_lt hbx)).trans hbx
  have c2 : W1.cell? ⟨w.heap.size, 2, none⟩ = some (.int .i64 xe) := by simp only [World.cell?, hbx]; rfl
  have d0 : W.cell? ⟨w.heap.size, 0, none⟩ = some (.int .i64 3) := by simp only [World.cell?, hbxW]; rfl
  have d4 : W.cell? ⟨w.heap.size, 4, none⟩ = some (.slice ba bn bc) := by simp only [World.cell?, hbxW]; rfl
  obtain ⟨bx, hbe⟩ : ∃ b, b = w.heap.size := ⟨_, rfl⟩
  rw [← hbe] at hbxW
  have hBX : BoxL bx ⟨3, xs, xe, nm, ba, bn, bc, B⟩ W := hbxW
  have hBl : B.length = bn := (hx w (Still8.refl _ _)).1
  obtain ⟨z, L', g', hzg⟩ : ∃ z L' g', addG B L g = (z, L', g') := ⟨_, _, _, rfl⟩
  obtain ⟨hlim', hllim'⟩ : Lim (q + bn + 13) (k + 2) g' ∧ L'.nm = L.nm ∧ ∀ (hLl : LLim q L), LLim (q + bn + 13) L' := by
    refine ⟨?_, ?_, fun hLl => ?_⟩
    · obtain ⟨L0, l0, m0, e1, _, _, _, _, _, _, e8, _⟩ := h.led.resolve_left (by rintro ⟨e, _⟩; cases e)
      injection e1 with e1
      subst e1
      have := (addG_lim (B := B) (q' := q + bn + 13) (k' := k + 2) h.lim e8 (by omega) (by omega)).1
      rw [hzg] at this
      exact this
    · have := addG_nm B L g
      rw [hzg] at this
      exact this
    · have := (addG_lim (B := B) (q' := q + bn + 13) (k' := k + 2) h.lim hLl (by omega) (by omega)).2
      rw [hzg] at this
      exact this
  have HX := Lib.hid (fun w' (hb : Still8 base W w') => hx w' ((Still8.of_below hbw h.hb).trans hb))
  have HA := Lib.hid (And.intro (h.later hbw) (And.intro (hbw.mono h.hb) hBX))
  have HF := Lib.hid h.fit
  have HZ := Lib.hid (And.intro hzg (And.intro hlim' hllim'))
  have HQ := Lib.hid (And.intro hq (And.intro hk9 hBl))
  have hzz : (z == z) = true := by simp
  have p2 := (h.later hbw).cells.2.2.1
  have p3 := (h.later hbw).cells.2.2.2
  have HBE := Lib.hid hbe
  clear h hbw hbxW hb1 hb2 hbx hq hk9 hbe hBX hzg hx hlim' hllim' hBl
  go_enter Tryz.func7, Tryz.ntmps7
  go_wp2_with fail
  refine (LentBytes_any ba bn bc B W (HX.out W (Still8.refl _ _)) (by have := HQ.out.1; omega)).mono ?_
  rintro e W2 ⟨gi, rfl, hg1, hlc, hb1⟩
  have hA2 := HA.out.1.later hb1
  have hS2 : SideL p #[.pointer (some ⟨d, 0, none⟩), .pointer (some ⟨r, 0, none⟩), .pointer (some ⟨l, 0, none⟩), .pointer (some ⟨m, 0, none⟩)] bx ⟨3, xs, xe, nm, ba, bn, bc, B⟩ W2 := ⟨hA2.row, (hb1.block _ (heap_lt HA.out.2.2)).trans HA.out.2.2⟩
  obtain ⟨L0, l0, m0, e1, e2, e3, hl4, hm4, hlr, hmr, hLl, hnm⟩ := hA2.led.resolve_left (by rintro ⟨e, _⟩; cases e)
  obtain rfl : L = L0 := by injection e1
  obtain rfl : l = l0 := by injection e2 with e2; injection e2 with e2; injection e2
  obtain rfl : m = m0 := by injection e3 with e3; injection e3 with e3; injection e3
  have HP := Lib.hid (And.intro hA2 (And.intro (HA.out.2.1.trans (hb1.mono HA.out.1.hb)) (And.intro (Still8.of_below hb1 HA.out.1.hb) (And.intro hLl hnm))))
  have HPD := Lib.hid (And.intro (hA2.later (Below.refl W2.heap.size W2).drew) (And.intro (show SideL p #[.pointer (some ⟨d, 0, none⟩), .pointer (some ⟨r, 0, none⟩), .pointer (some ⟨l, 0, none⟩), .pointer (some ⟨m, 0, none⟩)] bx ⟨3, xs, xe, nm, ba, bn, bc, B⟩ W2.drew from hS2) (And.intro (show W2.drew.heap[gi]? = some (.cells (u8s (lentA B 3)).toArray 5 (0, 0)) from hlc) (And.intro (show LedRow W2.drew l d L.nm L.n L.size L.br from hlr) (And.intro (show RLedRow W2.drew m r L.nm L.n L.size L.br from hmr) (And.intro hl4 hm4))))))
  have e4 : W2.cell? ⟨bx, 4, none⟩ = some (.slice ba bn bc) := hS2.2.cells.2.2.2.2
  have q2 := hS2.cells.2.2.1
  have q3 := hS2.cells.2.2.2
  clear hg1 hlc hb1 hA2 hS2 hl4 hm4 hlr hmr hLl hnm d0 c2 d4 p2 p3 e1 e2 e3
  go_wp2_with fail
  rw [← HBE.out]
  go_region_held3 (fun w' => w'.cell? ⟨p, 2, none⟩ = some (.pointer (some ⟨l, 0, none⟩)) ∧ w'.cell? ⟨p, 3, none⟩ = some (.pointer (some ⟨m, 0, none⟩)) ∧ w'.cell? ⟨bx, 4, none⟩ = some (.slice ba bn bc))
    (first
      | (exact ⟨q2, q3, e4⟩)
      | (exact ⟨hB3.cells.2.2.1, hB3.cells.2.2.2, hB3.2.cells.2.2.2.2⟩)
      | (exact ⟨hB2.cells.2.2.1, hB2.cells.2.2.2, hB2.2.cells.2.2.2.2⟩)
      | (exact ⟨hB1.cells.2.2.1, hB1.cells.2.2.2, hB1.2.cells.2.2.2.2⟩))
    (first
      | (go_at_call 13
         refine (@Add_S Z0 base d mb l q k L g _ bn (bn + 3) B _ HP.out.2.2.2.2 HPD.out.1.hb HPD.out.2.2.2.2.2.1 HPD.out.2.2.2.1 HPD.out.1.ds (lent_reads HQ.out.2.2 (by have := HQ.out; omega) HPD.out.2.2.1) HPD.out.1.lim HP.out.2.2.2.1 (by have := HQ.out; omega) (by have := HQ.out; omega)).mono ?_
         rintro e w1 ⟨rfl, hd1, hl1, hf1⟩
         rw [HZ.out.1] at hd1 hl1
         rw [HZ.out.1]
         dsimp only at hd1 hl1
         have hr1 : @RSig Z0 w1 r base g := @RSig.fd Z0 _ _ _ _ _ _ _ HPD.out.1.rs hf1 (led_else HPD.out.2.2.2.1)
         have hm1 : RLedRow w1 m r L.nm L.n L.size L.br := hf1.cells _ _ _ _ HPD.out.2.2.2.2.1 (by unfold TD; decide) (ne_of_types HPD.out.2.2.2.1 HPD.out.2.2.2.2.1 (by decide))
         have hB1 : SideL p #[.pointer (some ⟨d, 0, none⟩), .pointer (some ⟨r, 0, none⟩), .pointer (some ⟨l, 0, none⟩), .pointer (some ⟨m, 0, none⟩)] bx ⟨3, xs, xe, nm, ba, bn, bc, B⟩ w1 := HPD.out.2.1.fd hf1 (ne_of_types HPD.out.2.2.2.1 HPD.out.2.1.1 (by decide)) (ne_of_types HPD.out.2.2.2.1 HPD.out.2.1.2 (by decide))
         have hg1 : w1.heap[gi]? = some (.cells (u8s (lentA B 3)).toArray 5 (0, 0)) := hf1.cells _ _ _ _ HPD.out.2.2.1 (by unfold TD; decide) (ne_of_types HPD.out.2.2.2.1 HPD.out.2.2.1 (by decide))
         have hbb1 : Still8 base W w1 := (HP.out.2.2.1.trans (show Still8 base W2 W2.drew from ⟨(Below.refl base W2).drew, fun _ _ _ _ => rfl⟩)).trans hf1.still8)
      | (go_at_call 14
         refine (@rAdd_S Z0 base r m q k L g ba bn bc B _ HP.out.2.2.2.2 HPD.out.2.2.2.2.2.2 hm1 hr1 (fun _ hk => hk.elim) (HX.out _ hbb1) HPD.out.1.lim HF.out HP.out.2.2.2.1 (by have := HQ.out; omega) (by have := HQ.out; omega)).mono ?_
         rintro e w2 ⟨rfl, hr2, hm2, hf2⟩
         rw [HZ.out.1] at hr2 hm2
         rw [HZ.out.1]
         dsimp only at hr2 hm2
         have hd2 : @DSig Z0 w2 d mb base g' := @DSig.fr Z0 _ _ _ _ _ _ _ _ hd1 hf2 (rled_else hm1)
         have hl2 : LedRow w2 l d L'.nm L'.n L'.size L'.br := hf2.cells _ _ _ _ hl1 (by unfold TR; decide) (ne_of_types hm1 hl1 (by decide))
         have hB2 : SideL p #[.pointer (some ⟨d, 0, none⟩), .pointer (some ⟨r, 0, none⟩), .pointer (some ⟨l, 0, none⟩), .pointer (some ⟨m, 0, none⟩)] bx ⟨3, xs, xe, nm, ba, bn, bc, B⟩ w2 := hB1.fr hf2 (ne_of_types hm1 hB1.1 (by decide)) (ne_of_types hm1 hB1.2 (by decide))
         have hg2 : w2.heap[gi]? = some (.cells (u8s (lentA B 3)).toArray 5 (0, 0)) := hf2.cells _ _ _ _ hg1 (by unfold TR; decide) (ne_of_types hm1 hg1 (by decide))
         have hbb2 := hbb1.trans hf2.still8)
      | (go_at_call 15
         refine (KeptBytes_any gi bn (lentA B 3) ba bc B _ hg2 (by rw [lentA_length, HQ.out.2.2]) (HX.out _ hbb2) (by have := HQ.out; omega)).mono ?_
         rintro e w3 ⟨rfl, hb3⟩
         have hB3 : SideL p #[.pointer (some ⟨d, 0, none⟩), .pointer (some ⟨r, 0, none⟩), .pointer (some ⟨l, 0, none⟩), .pointer (some ⟨m, 0, none⟩)] bx ⟨3, xs, xe, nm, ba, bn, bc, B⟩ w3 := ⟨(hb3.block _ (heap_lt hB2.1)).trans hB2.1, (hb3.block _ (heap_lt hB2.2)).trans hB2.2⟩
         rw [show (lentA B 3 == lentA B 3) = true by simp]))
  all_goals
    have hsz : base ≤ w2.heap.size := Nat.le_trans HA.out.1.hb hbb2.1.size
    have hend : PairAt w3 p d mb r base (q + bn + 13) (k + 2) g' (some L') (.pointer (some ⟨l, 0, none⟩)) (.pointer (some ⟨m, 0, none⟩)) :=
      ⟨hB3.1, HA.out.1.hp, @DSig.later Z0 _ _ _ _ _ _ hd2 hb3, @RSig.later Z0 _ _ _ _ _ hr2 hb3, HZ.out.2.1, Nat.le_trans hsz hb3.size, .inr ⟨L', l, m, rfl, rfl, rfl, HPD.out.2.2.2.2.2.1, HPD.out.2.2.2.2.2.2, hl2.later hb3, hm2.later hb3, HZ.out.2.2.2 HP.out.2.2.2.1, by rw [HZ.out.2.2.1]; exact HP.out.2.2.2.2⟩⟩
    have HF2 := Lib.hid (And.intro hend ((HA.out.2.1.trans hbb2.1).trans (hb3.mono hsz)))
    clear hd1 hl1 hf1 hr1 hm1 hB1 hg1 hbb1 hr2 hm2 hf2 hd2 hl2 hB2 hg2 hbb2 hb3 hB3 hsz hend
    go_wp2_with fail
    go_ret
    exact ⟨rfl, ⟨_, _, _, _, HF2.out.1⟩, HF2.out.2⟩
end
end Go.Proofs.YtjkkfjmloleedaaGreat
