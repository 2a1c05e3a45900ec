/- layer 27's statements: act, call by call -/
import Derived.Test.YtmpjjkfbojhfoaaBoth4
import Derived.Test.YtmpjjkfbojhfoaaLentI
import Derived.Test.YtmpjjkfbojhfoaaDLong
import Derived.Test.YtmpjjkfbojhfoaaDUp
set_option linter.unusedSimpArgs false
set_option linter.unusedVariables false
namespace Go.Proofs.Ytmpjjkfbojhfoaa
open Go.RowKit
/-- a disk and the reference's, side by side. -/
structure ActAt (w : World) (d mb r base q k : Nat) (g : Sig) : Prop where
  ds : @DSig ⟨none⟩ w d mb base g
  rs : @RSig ⟨none⟩ w r base g
  lim : Lim q k g
  hb : base ≤ w.heap.size
theorem ActAt.later {w w' : World} {d mb r base q k : Nat} {g : Sig} (h : ActAt w d mb r base q k g) (hb : Below w.heap.size w w') : ActAt w' d mb r base q k g :=
  ⟨@DSig.later ⟨none⟩ _ _ _ _ _ _ h.ds hb, @RSig.later ⟨none⟩ _ _ _ _ _ h.rs hb, h.lim, Nat.le_trans h.hb hb.size⟩
theorem ActAt.rin {w : World} {d mb r base q k : Nat} {g : Sig} (h : ActAt w d mb r base q k g) (hq : q ≤ 4294967296) (hk : k ≤ 100000) : RIn q k g :=
  ⟨h.lim, hq, hk, (@DSig.fit ⟨none⟩ _ _ _ _ _ h.ds).1, (@DSig.fit ⟨none⟩ _ _ _ _ _ h.ds).2⟩
/-- the box in which a call lies. -/
def Boxed (bx : Nat) (x : ActV) (w : World) : Prop := w.heap[bx]? = some (.cells x.row 60 (0, 0))
theorem Boxed.cells {bx : Nat} {x : ActV} {w : World} (h : Boxed bx x w) : w.cell? ⟨bx, 0, none⟩ = some (.int .i64 x.kind) ∧ w.cell? ⟨bx, 1, none⟩ = some (.int .i64 x.size) ∧ w.cell? ⟨bx, 2, none⟩ = some (.string x.nm) ∧ w.cell? ⟨bx, 3, none⟩ = some (.string x.«to») ∧ w.cell? ⟨bx, 4, none⟩ = some (.slice x.ba x.bn x.bc) ∧ w.cell? ⟨bx, 5, none⟩ = some (.slice x.ka x.kn x.kc) := by
  unfold Boxed at h
  refine ⟨?_, ?_, ?_, ?_, ?_, ?_⟩ <;> simp only [World.cell?, h] <;> rfl
theorem Boxed.later {bx : Nat} {x : ActV} {w w' : World} (h : Boxed bx x w) (hb : Below w.heap.size w w') : Boxed bx x w' := (hb.block bx (heap_lt h)).trans h
theorem Boxed.kept [Zone] {bx d mb base : Nat} {x : ActV} {w w' : World} {g : Sig} (h : Boxed bx x w) (hd : DSig w d mb base g) (hk : Kept d mb base w w') : Boxed bx x w' := by
  obtain ⟨st, fu, out, es, c, q3, q5⟩ := hd.map
  exact (hk.cells q3 q5 h (by decide)).trans h
theorem Boxed.moved [Zone] {bx r base : Nat} {x : ActV} {w w' : World} {g : Sig} (h : Boxed bx x w) (hr : RSig w r base g) (hm : MovedR r base w w') : Boxed bx x w' :=
  (RefAt.kept hr hm h (by decide) (by decide)).trans h
section
variable {d mb r base q k : Nat} {g : Sig} {w : World} {x : ActV}
/-- what act tells. -/
def ActR (d mb r base q k : Nat) (w : World) (e : Ending) (w' : World) : Prop := e = .returned (.bool true) ∧ (∃ g', ActAt w' d mb r base q k g') ∧ Below base w w'
theorem act_end {W w1 w2 : World} {q' k' : Nat} {g' : Sig} (hw0 : Below w.heap.size w W) (hb : base ≤ w.heap.size) (hd1 : @DSig ⟨none⟩ w1 d mb base g') (hk1 : Kept d mb base W.drew w1) (hr1 : @RSig ⟨none⟩ w1 r base g) (hr2 : @RSig ⟨none⟩ w2 r base g') (hm2 : MovedR r base w1 w2) (hl : Lim q' k' g') : (∃ g', ActAt w2 d mb r base q' k' g') ∧ Below base w w2 := by
  have h1 : Below base w w2 := ((((hw0.mono hb).trans ((Below.refl base W).drew)).trans hk1.below).trans hm2.below)
  exact ⟨⟨g', @DSig.keptR ⟨none⟩ _ _ _ _ _ _ _ _ _ hd1 hr1 hm2, hr2, hl, Nat.le_trans hb h1.size⟩, h1⟩
-- ACTS
set_option maxRecDepth 100000 in
theorem act_cut (hk : x.kind = 2) (h : ActAt w d mb r base q k g) (hq : q + 1 ≤ 4294967296) (hk9 : k ≤ 100000) :
    Calls Try.prog 32 #[.pointer (some ⟨d, 0, none⟩), .pointer (some ⟨r, 0, none⟩), .agg x.row] w fun e w' => ActR d mb r base (q + 1) (k + 1) w e w' := by
  obtain ⟨xk, xs, nm, tt, ba, bn, bc, B, ka, kn, kc, K⟩ := x
  obtain rfl : xk = 2 := hk
  have hw0 : Below w.heap.size w (w.alloc (.cells #[.int .i64 2, .int .i64 xs, .string nm, .string tt, .slice ba bn bc, .slice ka kn kc] 60)) := (Below.refl _ _).alloc (Nat.le_refl _) _
  have hbx := heap_alloc_new w (.cells #[.int .i64 2, .int .i64 xs, .string nm, .string tt, .slice ba bn bc, .slice ka kn kc] 60)
  obtain ⟨bx, hbe⟩ : ∃ b, b = w.heap.size := ⟨_, rfl⟩
  obtain ⟨z, g', hzg⟩ : ∃ z g', cutG nm xs g = (z, g') := ⟨_, _, rfl⟩
  change Calls Try.prog 32 #[.pointer (some ⟨d, 0, none⟩), .pointer (some ⟨r, 0, none⟩), .agg #[.int .i64 2, .int .i64 xs, .string nm, .string tt, .slice ba bn bc, .slice ka kn kc]] w _
  go_enter Try.func32, Try.ntmps32
  rw [← hbe] at hbx
  generalize hW : (w.alloc (.cells #[.int .i64 2, .int .i64 xs, .string nm, .string tt, .slice ba bn bc, .slice ka kn kc] 60)) = W at hw0 hbx
  have hBX : Boxed bx ⟨2, xs, nm, tt, ba, bn, bc, B, ka, kn, kc, K⟩ W := hbx
  have HA := Lib.hid (And.intro (h.later hw0) (And.intro hw0 hBX))
  have HZ := Lib.hid hzg
  have HQ := Lib.hid (And.intro hq hk9)
  have HL := Lib.hid (And.intro h.lim h.hb)
  have hzz : (z == z) = true := by simp
  obtain ⟨c0, c1, c2, c3, c4, c5⟩ := hBX.cells
  dsimp only at c0 c1 c2 c3 c4 c5
  rw [hbe] at c0
  have HBE := Lib.hid hbe
  clear hBX hbx hw0 h hzg hq hk9 hbe
  go_wp2_with fail
  rw [← HBE.out]
  clear c0
  have HAD := Lib.hid (And.intro (HA.out.1.later (Below.refl W.heap.size W).drew) (show Boxed bx ⟨2, xs, nm, tt, ba, bn, bc, B, ka, kn, kc, K⟩ W.drew from HA.out.2.2))
  go_region_held3 (fun w' => w'.cell? ⟨bx, 1, none⟩ = some (.int .i64 xs) ∧ w'.cell? ⟨bx, 2, none⟩ = some (.string nm))
    (first
      | (exact ⟨c1, c2⟩)
      | (go_split_ands; exact ⟨(Boxed.cells (by assumption)).2.1, (Boxed.cells (by assumption)).2.2.1⟩))
    (first
      | (go_at_call 29
         refine (@Cut_S ⟨none⟩ nm xs d mb base q k g _ HAD.out.1.hb HAD.out.1.ds HAD.out.1.lim (by have := HQ.out; omega) (by have := HQ.out; omega)).mono ?_
         rintro e w1 ⟨rfl, hd1, hk1⟩
         rw [HZ.out] at hd1
         rw [HZ.out]
         have hr1 : @RSig ⟨none⟩ w1 r base g := @RSig.keptD ⟨none⟩ _ _ _ _ _ _ _ _ _ HAD.out.1.rs HAD.out.1.ds hk1
         have hB1 : Boxed bx ⟨2, xs, nm, tt, ba, bn, bc, B, ka, kn, kc, K⟩ w1 := @Boxed.kept ⟨none⟩ _ _ _ _ _ _ _ _ HAD.out.2 HAD.out.1.ds hk1)
      | (go_at_call 60
         go_split_ands
         refine (@rCut_S ⟨none⟩ nm xs r base q k g _ (by assumption) (HAD.out.1.rin (by have := HQ.out; omega) HQ.out.2)).mono ?_
         rintro e w2 ⟨rfl, hr2, hm2⟩
         rw [HZ.out] at hr2
         rw [HZ.out]
         have hB2 : Boxed bx ⟨2, xs, nm, tt, ba, bn, bc, B, ka, kn, kc, K⟩ w2 := @Boxed.moved ⟨none⟩ _ _ _ _ _ _ _ (by assumption) (by assumption) hm2))
  all_goals
    have HF := Lib.hid (act_end (q' := q + 1) (k' := k + 1) HA.out.2.1 HL.out.2 hd1 hk1 hr1 hr2 hm2 (by rw [show g' = (cutG nm xs g).2 by rw [HZ.out]]; exact HL.out.1.cut (by omega) (by omega)))
    clear hd1 hk1 hr1 hr2 hm2
    go_wp2_with fail
    go_ret
    exact ⟨rfl, HF.out⟩
set_option maxRecDepth 100000 in
theorem act_sync3 (hk : x.kind = 3) (h : ActAt w d mb r base q k g) (hq : q + 1 ≤ 4294967296) (hk9 : k ≤ 100000) :
    Calls Try.prog 32 #[.pointer (some ⟨d, 0, none⟩), .pointer (some ⟨r, 0, none⟩), .agg x.row] w fun e w' => ActR d mb r base (q + 1) (k + 1) w e w' := by
  obtain ⟨xk, xs, nm, tt, ba, bn, bc, B, ka, kn, kc, K⟩ := x
  obtain rfl : xk = 3 := hk
  have hw0 : Below w.heap.size w (w.alloc (.cells #[.int .i64 3, .int .i64 xs, .string nm, .string tt, .slice ba bn bc, .slice ka kn kc] 60)) := (Below.refl _ _).alloc (Nat.le_refl _) _
  have hbx := heap_alloc_new w (.cells #[.int .i64 3, .int .i64 xs, .string nm, .string tt, .slice ba bn bc, .slice ka kn kc] 60)
  obtain ⟨bx, hbe⟩ : ∃ b, b = w.heap.size := ⟨_, rfl⟩
  obtain ⟨z, g', hzg⟩ : ∃ z g', syncG nm g = (z, g') := ⟨_, _, rfl⟩
  change Calls Try.prog 32 #[.pointer (some ⟨d, 0, none⟩), .pointer (some ⟨r, 0, none⟩), .agg #[.int .i64 3, .int .i64 xs, .string nm, .string tt, .slice ba bn bc, .slice ka kn kc]] w _
  go_enter Try.func32, Try.ntmps32
  rw [← hbe] at hbx
  generalize hW : (w.alloc (.cells #[.int .i64 3, .int .i64 xs, .string nm, .string tt, .slice ba bn bc, .slice ka kn kc] 60)) = W at hw0 hbx
  have hBX : Boxed bx ⟨3, xs, nm, tt, ba, bn, bc, B, ka, kn, kc, K⟩ W := hbx
  have HA := Lib.hid (And.intro (h.later hw0) (And.intro hw0 hBX))
  have HZ := Lib.hid hzg
  have HQ := Lib.hid (And.intro hq hk9)
  have HL := Lib.hid (And.intro h.lim h.hb)
  have hzz : (z == z) = true := by simp
  obtain ⟨c0, c1, c2, c3, c4, c5⟩ := hBX.cells
  dsimp only at c0 c1 c2 c3 c4 c5
  rw [hbe] at c0
  have HBE := Lib.hid hbe
  clear hBX hbx hw0 h hzg hq hk9 hbe
  go_wp2_with fail
  rw [← HBE.out]
  clear c0
  have HAD := Lib.hid (And.intro (HA.out.1.later (Below.refl W.heap.size W).drew) (show Boxed bx ⟨3, xs, nm, tt, ba, bn, bc, B, ka, kn, kc, K⟩ W.drew from HA.out.2.2))
  go_region_held3 (fun w' => w'.cell? ⟨bx, 2, none⟩ = some (.string nm))
    (first
      | (exact c2)
      | (go_split_ands; exact (Boxed.cells (by assumption)).2.2.1))
    (first
      | (go_at_call 13
         refine (@Sync_S ⟨none⟩ nm d mb base q k g _ HAD.out.1.hb HAD.out.1.ds HAD.out.1.lim (by have := HQ.out; omega)).mono ?_
         rintro e w1 ⟨rfl, hd1, hk1⟩
         rw [HZ.out] at hd1
         rw [HZ.out]
         have hr1 : @RSig ⟨none⟩ w1 r base g := @RSig.keptD ⟨none⟩ _ _ _ _ _ _ _ _ _ HAD.out.1.rs HAD.out.1.ds hk1
         have hB1 : Boxed bx ⟨3, xs, nm, tt, ba, bn, bc, B, ka, kn, kc, K⟩ w1 := @Boxed.kept ⟨none⟩ _ _ _ _ _ _ _ _ HAD.out.2 HAD.out.1.ds hk1)
      | (go_at_call 61
         go_split_ands
         refine (@rSync_S ⟨none⟩ nm r base q k g _ (by assumption) (HAD.out.1.rin (by have := HQ.out; omega) HQ.out.2) (fun _ hk => by cases hk)).mono ?_
         rintro e w2 ⟨rfl, hr2, hm2⟩
         rw [HZ.out] at hr2
         rw [HZ.out]
         have hB2 : Boxed bx ⟨3, xs, nm, tt, ba, bn, bc, B, ka, kn, kc, K⟩ w2 := @Boxed.moved ⟨none⟩ _ _ _ _ _ _ _ (by assumption) (by assumption) hm2))
  all_goals
    have HF := Lib.hid (act_end (q' := q + 1) (k' := k + 1) HA.out.2.1 HL.out.2 hd1 hk1 hr1 hr2 hm2 (by rw [show g' = (syncG nm g).2 by rw [HZ.out]]; exact HL.out.1.sync (by omega) (by omega)))
    clear hd1 hk1 hr1 hr2 hm2
    go_wp2_with fail
    go_ret
    exact ⟨rfl, HF.out⟩
set_option maxRecDepth 100000 in
theorem act_sync4 (hk : x.kind = 4) (h : ActAt w d mb r base q k g) (hq : q + 1 ≤ 4294967296) (hk9 : k ≤ 100000) :
    Calls Try.prog 32 #[.pointer (some ⟨d, 0, none⟩), .pointer (some ⟨r, 0, none⟩), .agg x.row] w fun e w' => ActR d mb r base (q + 1) (k + 1) w e w' := by
  obtain ⟨xk, xs, nm, tt, ba, bn, bc, B, ka, kn, kc, K⟩ := x
  obtain rfl : xk = 4 := hk
  have hw0 : Below w.heap.size w (w.alloc (.cells #[.int .i64 4, .int .i64 xs, .string nm, .string tt, .slice ba bn bc, .slice ka kn kc] 60)) := (Below.refl _ _).alloc (Nat.le_refl _) _
  have hbx := heap_alloc_new w (.cells #[.int .i64 4, .int .i64 xs, .string nm, .string tt, .slice ba bn bc, .slice ka kn kc] 60)
  obtain ⟨bx, hbe⟩ : ∃ b, b = w.heap.size := ⟨_, rfl⟩
  obtain ⟨z, g', hzg⟩ : ∃ z g', syncG nm g = (z, g') := ⟨_, _, rfl⟩
  change Calls Try.prog 32 #[.pointer (some ⟨d, 0, none⟩), .pointer (some ⟨r, 0, none⟩), .agg #[.int .i64 4, .int .i64 xs, .string nm, .string tt, .slice ba bn bc, .slice ka kn kc]] w _
  go_enter Try.func32, Try.ntmps32
  rw [← hbe] at hbx
  generalize hW : (w.alloc (.cells #[.int .i64 4, .int .i64 xs, .string nm, .string tt, .slice ba bn bc, .slice ka kn kc] 60)) = W at hw0 hbx
  have hBX : Boxed bx ⟨4, xs, nm, tt, ba, bn, bc, B, ka, kn, kc, K⟩ W := hbx
  have HA := Lib.hid (And.intro (h.later hw0) (And.intro hw0 hBX))
  have HZ := Lib.hid hzg
  have HQ := Lib.hid (And.intro hq hk9)
  have HL := Lib.hid (And.intro h.lim h.hb)
  have hzz : (z == z) = true := by simp
  obtain ⟨c0, c1, c2, c3, c4, c5⟩ := hBX.cells
  dsimp only at c0 c1 c2 c3 c4 c5
  rw [hbe] at c0
  have HBE := Lib.hid hbe
  clear hBX hbx hw0 h hzg hq hk9 hbe
  go_wp2_with fail
  rw [← HBE.out]
  clear c0
  have HAD := Lib.hid (And.intro (HA.out.1.later (Below.refl W.heap.size W).drew) (show Boxed bx ⟨4, xs, nm, tt, ba, bn, bc, B, ka, kn, kc, K⟩ W.drew from HA.out.2.2))
  go_region_held3 (fun w' => w'.cell? ⟨bx, 2, none⟩ = some (.string nm))
    (first
      | (exact c2)
      | (go_split_ands; exact (Boxed.cells (by assumption)).2.2.1))
    (first
      | (go_at_call 13
         refine (@Sync_S ⟨none⟩ nm d mb base q k g _ HAD.out.1.hb HAD.out.1.ds HAD.out.1.lim (by have := HQ.out; omega)).mono ?_
         rintro e w1 ⟨rfl, hd1, hk1⟩
         rw [HZ.out] at hd1
         rw [HZ.out]
         have hr1 : @RSig ⟨none⟩ w1 r base g := @RSig.keptD ⟨none⟩ _ _ _ _ _ _ _ _ _ HAD.out.1.rs HAD.out.1.ds hk1
         have hB1 : Boxed bx ⟨4, xs, nm, tt, ba, bn, bc, B, ka, kn, kc, K⟩ w1 := @Boxed.kept ⟨none⟩ _ _ _ _ _ _ _ _ HAD.out.2 HAD.out.1.ds hk1)
      | (go_at_call 61
         go_split_ands
         refine (@rSync_S ⟨none⟩ nm r base q k g _ (by assumption) (HAD.out.1.rin (by have := HQ.out; omega) HQ.out.2) (fun _ hk => by cases hk)).mono ?_
         rintro e w2 ⟨rfl, hr2, hm2⟩
         rw [HZ.out] at hr2
         rw [HZ.out]
         have hB2 : Boxed bx ⟨4, xs, nm, tt, ba, bn, bc, B, ka, kn, kc, K⟩ w2 := @Boxed.moved ⟨none⟩ _ _ _ _ _ _ _ (by assumption) (by assumption) hm2))
  all_goals
    have HF := Lib.hid (act_end (q' := q + 1) (k' := k + 1) HA.out.2.1 HL.out.2 hd1 hk1 hr1 hr2 hm2 (by rw [show g' = (syncG nm g).2 by rw [HZ.out]]; exact HL.out.1.sync (by omega) (by omega)))
    clear hd1 hk1 hr1 hr2 hm2
    go_wp2_with fail
    go_ret
    exact ⟨rfl, HF.out⟩
set_option maxRecDepth 100000 in
theorem act_ren (hk : x.kind = 5) (h : ActAt w d mb r base q k g) (hq : q + 1 ≤ 4294967296) (hk9 : k ≤ 100000) (ht : x.«to».size ≤ 1099511627776) :
    Calls Try.prog 32 #[.pointer (some ⟨d, 0, none⟩), .pointer (some ⟨r, 0, none⟩), .agg x.row] w fun e w' => ActR d mb r base (q + 1) (k + 1) w e w' := by
  obtain ⟨xk, xs, nm, tt, ba, bn, bc, B, ka, kn, kc, K⟩ := x
  obtain rfl : xk = 5 := hk
  have hw0 : Below w.heap.size w (w.alloc (.cells #[.int .i64 5, .int .i64 xs, .string nm, .string tt, .slice ba bn bc, .slice ka kn kc] 60)) := (Below.refl _ _).alloc (Nat.le_refl _) _
  have hbx := heap_alloc_new w (.cells #[.int .i64 5, .int .i64 xs, .string nm, .string tt, .slice ba bn bc, .slice ka kn kc] 60)
  obtain ⟨bx, hbe⟩ : ∃ b, b = w.heap.size := ⟨_, rfl⟩
  obtain ⟨z, g', hzg⟩ : ∃ z g', renG nm tt g = (z, g') := ⟨_, _, rfl⟩
  change Calls Try.prog 32 #[.pointer (some ⟨d, 0, none⟩), .pointer (some ⟨r, 0, none⟩), .agg #[.int .i64 5, .int .i64 xs, .string nm, .string tt, .slice ba bn bc, .slice ka kn kc]] w _
  go_enter Try.func32, Try.ntmps32
  rw [← hbe] at hbx
  generalize hW : (w.alloc (.cells #[.int .i64 5, .int .i64 xs, .string nm, .string tt, .slice ba bn bc, .slice ka kn kc] 60)) = W at hw0 hbx
  have hBX : Boxed bx ⟨5, xs, nm, tt, ba, bn, bc, B, ka, kn, kc, K⟩ W := hbx
  have HA := Lib.hid (And.intro (h.later hw0) (And.intro hw0 hBX))
  have HZ := Lib.hid hzg
  have HQ := Lib.hid (And.intro hq hk9)
  have HL := Lib.hid (And.intro h.lim h.hb)
  have HT := Lib.hid ht
  dsimp only at HT
  have hzz : (z == z) = true := by simp
  obtain ⟨c0, c1, c2, c3, c4, c5⟩ := hBX.cells
  dsimp only at c0 c1 c2 c3 c4 c5
  rw [hbe] at c0
  have HBE := Lib.hid hbe
  clear hBX hbx hw0 h hzg hq hk9 hbe ht
  go_wp2_with fail
  rw [← HBE.out]
  clear c0
  have HAD := Lib.hid (And.intro (HA.out.1.later (Below.refl W.heap.size W).drew) (show Boxed bx ⟨5, xs, nm, tt, ba, bn, bc, B, ka, kn, kc, K⟩ W.drew from HA.out.2.2))
  go_region_held3 (fun w' => w'.cell? ⟨bx, 2, none⟩ = some (.string nm) ∧ w'.cell? ⟨bx, 3, none⟩ = some (.string tt))
    (first
      | (exact ⟨c2, c3⟩)
      | (go_split_ands; exact ⟨(Boxed.cells (by assumption)).2.2.1, (Boxed.cells (by assumption)).2.2.2.1⟩))
    (first
      | (go_at_call 27
         refine (@Rename_S ⟨none⟩ nm tt HT.out d mb base q k g _ HAD.out.1.hb HAD.out.1.ds HAD.out.1.lim (by have := HQ.out; omega)).mono ?_
         rintro e w1 ⟨rfl, hd1, hk1⟩
         rw [HZ.out] at hd1
         rw [HZ.out]
         have hr1 : @RSig ⟨none⟩ w1 r base g := @RSig.keptD ⟨none⟩ _ _ _ _ _ _ _ _ _ HAD.out.1.rs HAD.out.1.ds hk1
         have hB1 : Boxed bx ⟨5, xs, nm, tt, ba, bn, bc, B, ka, kn, kc, K⟩ w1 := @Boxed.kept ⟨none⟩ _ _ _ _ _ _ _ _ HAD.out.2 HAD.out.1.ds hk1)
      | (go_at_call 62
         go_split_ands
         refine (@rRename_S ⟨none⟩ nm tt HT.out r base q k g _ (by assumption) (HAD.out.1.rin (by have := HQ.out; omega) HQ.out.2)).mono ?_
         rintro e w2 ⟨rfl, hr2, hm2⟩
         rw [HZ.out] at hr2
         rw [HZ.out]
         have hB2 : Boxed bx ⟨5, xs, nm, tt, ba, bn, bc, B, ka, kn, kc, K⟩ w2 := @Boxed.moved ⟨none⟩ _ _ _ _ _ _ _ (by assumption) (by assumption) hm2))
  all_goals
    have HF := Lib.hid (act_end (q' := q + 1) (k' := k + 1) HA.out.2.1 HL.out.2 hd1 hk1 hr1 hr2 hm2 (by rw [show g' = (renG nm tt g).2 by rw [HZ.out]]; exact HL.out.1.ren (by omega) (by omega)))
    clear hd1 hk1 hr1 hr2 hm2
    go_wp2_with fail
    go_ret
    exact ⟨rfl, HF.out⟩
set_option maxRecDepth 100000 in
theorem act_rem (hk : x.kind = 6) (h : ActAt w d mb r base q k g) (hq : q + 1 ≤ 4294967296) (hk9 : k ≤ 100000) :
    Calls Try.prog 32 #[.pointer (some ⟨d, 0, none⟩), .pointer (some ⟨r, 0, none⟩), .agg x.row] w fun e w' => ActR d mb r base (q + 1) (k + 1) w e w' := by
  obtain ⟨xk, xs, nm, tt, ba, bn, bc, B, ka, kn, kc, K⟩ := x
  obtain rfl : xk = 6 := hk
  have hw0 : Below w.heap.size w (w.alloc (.cells #[.int .i64 6, .int .i64 xs, .string nm, .string tt, .slice ba bn bc, .slice ka kn kc] 60)) := (Below.refl _ _).alloc (Nat.le_refl _) _
  have hbx := heap_alloc_new w (.cells #[.int .i64 6, .int .i64 xs, .string nm, .string tt, .slice ba bn bc, .slice ka kn kc] 60)
  obtain ⟨bx, hbe⟩ : ∃ b, b = w.heap.size := ⟨_, rfl⟩
  obtain ⟨z, g', hzg⟩ : ∃ z g', remG nm g = (z, g') := ⟨_, _, rfl⟩
  change Calls Try.prog 32 #[.pointer (some ⟨d, 0, none⟩), .pointer (some ⟨r, 0, none⟩), .agg #[.int .i64 6, .int .i64 xs, .string nm, .string tt, .slice ba bn bc, .slice ka kn kc]] w _
  go_enter Try.func32, Try.ntmps32
  rw [← hbe] at hbx
  generalize hW : (w.alloc (.cells #[.int .i64 6, .int .i64 xs, .string nm, .string tt, .slice ba bn bc, .slice ka kn kc] 60)) = W at hw0 hbx
  have hBX : Boxed bx ⟨6, xs, nm, tt, ba, bn, bc, B, ka, kn, kc, K⟩ W := hbx
  have HA := Lib.hid (And.intro (h.later hw0) (And.intro hw0 hBX))
  have HZ := Lib.hid hzg
  have HQ := Lib.hid (And.intro hq hk9)
  have HL := Lib.hid (And.intro h.lim h.hb)
  have hzz : (z == z) = true := by simp
  obtain ⟨c0, c1, c2, c3, c4, c5⟩ := hBX.cells
  dsimp only at c0 c1 c2 c3 c4 c5
  rw [hbe] at c0
  have HBE := Lib.hid hbe
  clear hBX hbx hw0 h hzg hq hk9 hbe
  go_wp2_with fail
  rw [← HBE.out]
  clear c0
  have HAD := Lib.hid (And.intro (HA.out.1.later (Below.refl W.heap.size W).drew) (show Boxed bx ⟨6, xs, nm, tt, ba, bn, bc, B, ka, kn, kc, K⟩ W.drew from HA.out.2.2))
  go_region_held3 (fun w' => w'.cell? ⟨bx, 2, none⟩ = some (.string nm))
    (first
      | (exact c2)
      | (go_split_ands; exact (Boxed.cells (by assumption)).2.2.1))
    (first
      | (go_at_call 18
         refine (@Remove_S ⟨none⟩ nm d mb base q k g _ HAD.out.1.hb HAD.out.1.ds HAD.out.1.lim (by have := HQ.out; omega)).mono ?_
         rintro e w1 ⟨rfl, hd1, hk1⟩
         rw [HZ.out] at hd1
         rw [HZ.out]
         have hr1 : @RSig ⟨none⟩ w1 r base g := @RSig.keptD ⟨none⟩ _ _ _ _ _ _ _ _ _ HAD.out.1.rs HAD.out.1.ds hk1
         have hB1 : Boxed bx ⟨6, xs, nm, tt, ba, bn, bc, B, ka, kn, kc, K⟩ w1 := @Boxed.kept ⟨none⟩ _ _ _ _ _ _ _ _ HAD.out.2 HAD.out.1.ds hk1)
      | (go_at_call 63
         go_split_ands
         refine (@rRemove_S ⟨none⟩ nm r base q k g _ (by assumption) (HAD.out.1.rin (by have := HQ.out; omega) HQ.out.2)).mono ?_
         rintro e w2 ⟨rfl, hr2, hm2⟩
         rw [HZ.out] at hr2
         rw [HZ.out]
         have hB2 : Boxed bx ⟨6, xs, nm, tt, ba, bn, bc, B, ka, kn, kc, K⟩ w2 := @Boxed.moved ⟨none⟩ _ _ _ _ _ _ _ (by assumption) (by assumption) hm2))
  all_goals
    have HF := Lib.hid (act_end (q' := q + 1) (k' := k + 1) HA.out.2.1 HL.out.2 hd1 hk1 hr1 hr2 hm2 (by rw [show g' = (remG nm g).2 by rw [HZ.out]]; exact HL.out.1.rem (by omega) (by omega)))
    clear hd1 hk1 hr1 hr2 hm2
    go_wp2_with fail
    go_ret
    exact ⟨rfl, HF.out⟩
set_option maxRecDepth 100000 in
theorem act_fuse (hk : x.kind = 7) (h : ActAt w d mb r base q k g) (hq : q + 1 ≤ 4294967296) (hk9 : k ≤ 100000) (ht : x.size ≤ 9223372036854775807) :
    Calls Try.prog 32 #[.pointer (some ⟨d, 0, none⟩), .pointer (some ⟨r, 0, none⟩), .agg x.row] w fun e w' => ActR d mb r base (q + 1) (k + 1) w e w' := by
  obtain ⟨xk, xs, nm, tt, ba, bn, bc, B, ka, kn, kc, K⟩ := x
  obtain rfl : xk = 7 := hk
  have hw0 : Below w.heap.size w (w.alloc (.cells #[.int .i64 7, .int .i64 xs, .string nm, .string tt, .slice ba bn bc, .slice ka kn kc] 60)) := (Below.refl _ _).alloc (Nat.le_refl _) _
  have hbx := heap_alloc_new w (.cells #[.int .i64 7, .int .i64 xs, .string nm, .string tt, .slice ba bn bc, .slice ka kn kc] 60)
  obtain ⟨bx, hbe⟩ : ∃ b, b = w.heap.size := ⟨_, rfl⟩
  obtain ⟨z, g', hzg⟩ : ∃ z g', fuseG xs g = (z, g') := ⟨_, _, rfl⟩
  change Calls Try.prog 32 #[.pointer (some ⟨d, 0, none⟩), .pointer (some ⟨r, 0, none⟩), .agg #[.int .i64 7, .int .i64 xs, .string nm, .string tt, .slice ba bn bc, .slice ka kn kc]] w _
  go_enter Try.func32, Try.ntmps32
  rw [← hbe] at hbx
  generalize hW : (w.alloc (.cells #[.int .i64 7, .int .i64 xs, .string nm, .string tt, .slice ba bn bc, .slice ka kn kc] 60)) = W at hw0 hbx
  have hBX : Boxed bx ⟨7, xs, nm, tt, ba, bn, bc, B, ka, kn, kc, K⟩ W := hbx
  have HA := Lib.hid (And.intro (h.later hw0) (And.intro hw0 hBX))
  have HZ := Lib.hid hzg
  have HQ := Lib.hid (And.intro hq hk9)
  have HL := Lib.hid (And.intro h.lim h.hb)
  have HT := Lib.hid ht
  dsimp only at HT
  have hzz : (z == z) = true := by simp
  obtain ⟨c0, c1, c2, c3, c4, c5⟩ := hBX.cells
  dsimp only at c0 c1 c2 c3 c4 c5
  rw [hbe] at c0
  have HBE := Lib.hid hbe
  clear hBX hbx hw0 h hzg hq hk9 hbe ht
  go_wp2_with fail
  rw [← HBE.out]
  clear c0
  have HAD := Lib.hid (And.intro (HA.out.1.later (Below.refl W.heap.size W).drew) (show Boxed bx ⟨7, xs, nm, tt, ba, bn, bc, B, ka, kn, kc, K⟩ W.drew from HA.out.2.2))
  go_region_held3 (fun w' => w'.cell? ⟨bx, 1, none⟩ = some (.int .i64 xs))
    (first
      | (exact c1)
      | (go_split_ands; exact (Boxed.cells (by assumption)).2.1))
    (first
      | (go_at_call 24
         refine (@Fuse_S ⟨none⟩ xs HT.out d mb base g _ HAD.out.1.hb HAD.out.1.ds).mono ?_
         rintro e w1 ⟨rfl, hd1, hk1⟩
         rw [HZ.out] at hd1
         rw [HZ.out]
         have hr1 : @RSig ⟨none⟩ w1 r base g := @RSig.keptD ⟨none⟩ _ _ _ _ _ _ _ _ _ HAD.out.1.rs HAD.out.1.ds hk1
         have hB1 : Boxed bx ⟨7, xs, nm, tt, ba, bn, bc, B, ka, kn, kc, K⟩ w1 := @Boxed.kept ⟨none⟩ _ _ _ _ _ _ _ _ HAD.out.2 HAD.out.1.ds hk1)
      | (go_at_call 64
         go_split_ands
         refine (@rFuse_S ⟨none⟩ xs r base g _ (by assumption)).mono ?_
         rintro e w2 ⟨rfl, hr2, hm2⟩
         rw [HZ.out] at hr2
         rw [HZ.out]
         have hB2 : Boxed bx ⟨7, xs, nm, tt, ba, bn, bc, B, ka, kn, kc, K⟩ w2 := @Boxed.moved ⟨none⟩ _ _ _ _ _ _ _ (by assumption) (by assumption) hm2))
  all_goals
    have HF := Lib.hid (act_end (q' := q + 1) (k' := k + 1) HA.out.2.1 HL.out.2 hd1 hk1 hr1 hr2 hm2 (by rw [show g' = (fuseG xs g).2 by rw [HZ.out]]; exact (HL.out.1.fuse HT.out).mono (by omega) (by omega)))
    clear hd1 hk1 hr1 hr2 hm2
    go_wp2_with fail
    go_ret
    exact ⟨rfl, HF.out⟩
end
end Go.Proofs.Ytmpjjkfbojhfoaa

/- layer 27's statements: act, an append; a call that asks nothing -/
set_option linter.unusedSimpArgs false
set_option linter.unusedVariables false
namespace Go.Proofs.Ytmpjjkfbojhfoaa
open Go.RowKit
theorem lent_own {w : World} {g n : Nat} {l : List UInt8} (hg : w.heap[g]? = some (.cells (u8s (lentA l 3)).toArray 5 (0, 0))) (hl : l.length = n) (hn : n ≤ 4294967296) : OwnB w g (.slice (some ⟨g, 0, none⟩) n (n + 3)) l := by
  subst hl
  refine ⟨⟨by rw [u8s_length]; omega, .inr ⟨g, l.length + 3, _, rfl, Nat.le_refl _, hg, by omega, by unfold maxLen; omega, by simp [u8s_length, lentA_length], ?_⟩⟩, fun k c t f hk hc u hu => ?_⟩
  · have e := lentA_take l 3
    rw [Nat.mul_one]
    show (u8s (lentA l 3)).take l.length = u8s l
    unfold u8s
    rw [← List.map_take, e]
  · simp only [Value.ownBlock, Option.some.injEq] at hk
    subst hk
    rw [hg] at hc
    injection hc with hc
    injection hc with hc _
    subst hc
    exact isU8_u8s _ u (by simpa using hu)
section
variable {d mb r base q k : Nat} {g : Sig} {w : World} {x : ActV}
theorem ActAt.zoned {W w1 : World} {gi : Nat} (h : ActAt W d mb r base q k g) (hb : Below W.heap.size W w1) (h1 : W.heap.size ≤ gi) (h2 : gi < w1.heap.size) : @DSig ⟨some gi⟩ w1 d mb base g ∧ @RSig ⟨some gi⟩ w1 r base g := by
  refine ⟨DSig.rezone (Z1 := ⟨none⟩) (Z2 := ⟨some gi⟩) h.ds hb.size (fun j hj _ => hb.block j hj) (fun k hk => by cases hk) (fun k hk => ?_), RSig.rezone (Z1 := ⟨none⟩) (Z2 := ⟨some gi⟩) h.rs (fun j hj _ => hb.block j hj) (fun k hk => by cases hk) (fun k hk => ?_)⟩
  · have e : gi = k := by injection hk
    subst e
    exact ⟨.inr h1, h2⟩
  · have e : gi = k := by injection hk
    subst e
    exact .inr h1
theorem act_over {w3 w4 : World} {gi q' k' : Nat} {c : Array Value} {fr : Nat × Nat} {g' : Sig} (hd : @DSig ⟨some gi⟩ w3 d mb base g') (hr : @RSig ⟨some gi⟩ w3 r base g') (hc : w3.heap[gi]? = some (.cells c 5 fr)) (hg : w3.grownBy w4 (some gi)) (hl : Lim q' k' g') (hb : base ≤ w3.heap.size) (hb2 : base ≤ gi) : ActAt w4 d mb r base q' k' g' ∧ Below base w3 w4 := by
  have hbl : ∀ j, j < w3.heap.size → (some gi : Option Nat) ≠ some j → w4.heap[j]? = w3.heap[j]? := fun j hj hne => hg.block j hj (fun e => hne e.symm)
  have hty : ∀ k, (some gi : Option Nat) = some k → ∃ c fr, w3.heap[k]? = some (.cells c 5 fr) := fun k hk => by
    have e : gi = k := by injection hk
    subst e
    exact ⟨_, _, hc⟩
  refine ⟨⟨DSig.rezone (Z1 := ⟨some gi⟩) (Z2 := ⟨none⟩) hd hg.size hbl hty (fun k hk => by cases hk), RSig.rezone (Z1 := ⟨some gi⟩) (Z2 := ⟨none⟩) hr hbl hty (fun k hk => by cases hk), hl, Nat.le_trans hb hg.size⟩, (Below.refl base w3).grown hg hb (fun k hk => ?_)⟩
  injection hk with hk
  omega
theorem zw_some {gi : Nat} {w : World} (h : gi < w.heap.size) : @ZW ⟨some gi⟩ w := fun j hj => by
  have e : gi = j := by injection hj
  rw [← e]
  exact h
theorem lent_kept {Z : Zone} {w w' : World} {g2 : Sig} {j : Nat} {c : Array Value} {t : TypeId} {fr : Nat × Nat} (hc : w.heap[j]? = some (.cells c t fr)) (hd : @DSig Z w d mb base g2) (hk : Kept d mb base w w') (ht : t ≠ 68 ∧ t ≠ 76 ∧ t ≠ 101) : w'.heap[j]? = some (.cells c t fr) := by
  obtain ⟨st, fu, out, es, c2, q3, q5⟩ := @DSig.map Z _ _ _ _ _ hd
  exact (hk.cells q3 q5 hc ht).trans hc
theorem OwnB.reads9 {w : World} {base n cap : Nat} {ao : Option Addr} {l : List UInt8} (h : OwnB w base (.slice ao n cap) l) : IsBytes w ao n cap l := by
  obtain ⟨a, c, e, hb, _⟩ := h.bytes
  injection e with e1 e2 e3
  subst e1
  subst e2
  subst e3
  exact hb
set_option maxRecDepth 100000 in
theorem act_else (hk : x.kind < 0 ∨ 9 < x.kind) (h : ActAt w d mb r base q k g) :
    Calls Try.prog 32 #[.pointer (some ⟨d, 0, none⟩), .pointer (some ⟨r, 0, none⟩), .agg x.row] w fun e w' => ActR d mb r base q k w e w' := by
  obtain ⟨xk, xs, nm, tt, ba, bn, bc, B, ka, kn, kc, K⟩ := x
  dsimp only at hk
  have hw0 : Below w.heap.size w (w.alloc (.cells #[.int .i64 xk, .int .i64 xs, .string nm, .string tt, .slice ba bn bc, .slice ka kn kc] 60)) := (Below.refl _ _).alloc (Nat.le_refl _) _
  have hbx := heap_alloc_new w (.cells #[.int .i64 xk, .int .i64 xs, .string nm, .string tt, .slice ba bn bc, .slice ka kn kc] 60)
  change Calls Try.prog 32 #[.pointer (some ⟨d, 0, none⟩), .pointer (some ⟨r, 0, none⟩), .agg #[.int .i64 xk, .int .i64 xs, .string nm, .string tt, .slice ba bn bc, .slice ka kn kc]] w _
  go_enter Try.func32, Try.ntmps32
  generalize hW : (w.alloc (.cells #[.int .i64 xk, .int .i64 xs, .string nm, .string tt, .slice ba bn bc, .slice ka kn kc] 60)) = W at hw0 hbx
  have c0 : W.cell? ⟨w.heap.size, 0, none⟩ = some (.int .i64 xk) := by simp only [World.cell?, hbx]; rfl
  have HA := Lib.hid (show ActR d mb r base q k w (.returned (.bool true)) W from ⟨rfl, ⟨g, h.later hw0⟩, hw0.mono h.hb⟩)
  have e0 : (xk == 0) = false := by simp; omega
  have e1 : (xk == 1) = false := by simp; omega
  have e2 : (xk == 2) = false := by simp; omega
  have e3 : (xk == 3) = false := by simp; omega
  have e4 : (xk == 4) = false := by simp; omega
  have e5 : (xk == 5) = false := by simp; omega
  have e6 : (xk == 6) = false := by simp; omega
  have e7 : (xk == 7) = false := by simp; omega
  have e8 : (xk == 8) = false := by simp; omega
  have e9 : (xk == 9) = false := by simp; omega
  clear hk h hw0 hbx
  go_wp2_with fail
  go_ret
  exact HA.out
-- ACTS
set_option maxRecDepth 100000 in
theorem act_app0 (hk : x.kind = 0) (h : ActAt w d mb r base q k g) (hq : q + x.bn ≤ 4294967296) (hk9 : k ≤ 100000) (hnm : x.nm.size ≤ 1099511627776) (hx : ∀ w', Below base w w' → ActOk w' x) :
    Calls Try.prog 32 #[.pointer (some ⟨d, 0, none⟩), .pointer (some ⟨r, 0, none⟩), .agg x.row] w fun e w' => ActR d mb r base (q + x.bn + 1) (k + 1) w e w' := by
  obtain ⟨xk, xs, nm, tt, ba, bn, bc, B, ka, kn, kc, K⟩ := x
  dsimp only at hk hq hnm ⊢
  obtain rfl : xk = 0 := hk
  have hw0 : Below w.heap.size w (w.alloc (.cells #[.int .i64 0, .int .i64 xs, .string nm, .string tt, .slice ba bn bc, .slice ka kn kc] 60)) := (Below.refl _ _).alloc (Nat.le_refl _) _
  have hbx := heap_alloc_new w (.cells #[.int .i64 0, .int .i64 xs, .string nm, .string tt, .slice ba bn bc, .slice ka kn kc] 60)
  obtain ⟨bx, hbe⟩ : ∃ b, b = w.heap.size := ⟨_, rfl⟩
  obtain ⟨z, g', hzg⟩ : ∃ z g', appG nm B g = (z, g') := ⟨_, _, rfl⟩
  change Calls Try.prog 32 #[.pointer (some ⟨d, 0, none⟩), .pointer (some ⟨r, 0, none⟩), .agg #[.int .i64 0, .int .i64 xs, .string nm, .string tt, .slice ba bn bc, .slice ka kn kc]] w _
  go_enter Try.func32, Try.ntmps32
  rw [← hbe] at hbx
  generalize hW : (w.alloc (.cells #[.int .i64 0, .int .i64 xs, .string nm, .string tt, .slice ba bn bc, .slice ka kn kc] 60)) = W at hw0 hbx
  have hBX : Boxed bx ⟨0, xs, nm, tt, ba, bn, bc, B, ka, kn, kc, K⟩ W := hbx
  have HA := Lib.hid (And.intro (h.later hw0) (And.intro hw0 hBX))
  have HX := Lib.hid (fun w' (hb : Below base W w') => (hx w' ((hw0.mono h.hb).trans hb)).B)
  dsimp only at HX
  have hBl : B.length = bn := (HX.out W (Below.refl _ _)).1
  have HZ := Lib.hid hzg
  have HQ := Lib.hid (And.intro hq (And.intro hk9 (And.intro hnm (And.intro h.lim (And.intro h.hb hBl)))))
  have hzz : (z == z) = true := by simp
  obtain ⟨c0, c1, c2, c3, c4, c5⟩ := hBX.cells
  dsimp only at c0 c1 c2 c3 c4 c5
  rw [hbe] at c0 c4
  have HBE := Lib.hid hbe
  clear hBX hbx hw0 h hzg hq hk9 hbe hnm hx hBl c1 c2 c3 c5
  go_wp2_with fail
  refine (LentBytes_any ba bn bc B W (HX.out W (Below.refl _ _)) (by have := HQ.out.1; omega)).mono ?_
  rintro e W1 ⟨gi, rfl, hg1, hlc, hb1⟩
  have hgl : gi < W1.heap.size := heap_lt hlc
  obtain ⟨hd0, hr0⟩ := HA.out.1.zoned hb1 hg1 hgl
  have hbW : Below base W W1 := hb1.mono HA.out.1.hb
  have hBX1 : Boxed bx ⟨0, xs, nm, tt, ba, bn, bc, B, ka, kn, kc, K⟩ W1 := HA.out.2.2.later hb1
  have HP := Lib.hid (And.intro hd0 (And.intro hr0 (And.intro hbW (And.intro hBX1 (And.intro hlc (And.intro (Nat.le_trans HA.out.1.hb hg1) (Nat.le_trans HA.out.1.hb hb1.size)))))))
  have HPD := Lib.hid (And.intro (@DSig.later ⟨some gi⟩ _ _ _ _ _ _ hd0 (Below.refl W1.heap.size W1).drew) (And.intro (@RSig.later ⟨some gi⟩ _ _ _ _ _ hr0 (Below.refl W1.heap.size W1).drew) (And.intro (show Boxed bx ⟨0, xs, nm, tt, ba, bn, bc, B, ka, kn, kc, K⟩ W1.drew from hBX1) (show W1.drew.heap[gi]? = some (.cells (u8s (lentA B 3)).toArray 5 (0, 0)) from hlc))))
  have d2 := (hBX1.cells).2.2.1
  have d4 := (hBX1.cells).2.2.2.2.1
  dsimp only at d2 d4
  clear hg1 hlc hb1 hgl hd0 hr0 hbW hBX1 c0 c4
  go_wp2_with fail
  rw [← HBE.out]
  go_region_held3 (fun w' => w'.cell? ⟨bx, 2, none⟩ = some (.string nm) ∧ w'.cell? ⟨bx, 4, none⟩ = some (.slice ba bn bc))
    (first
      | (exact ⟨d2, d4⟩)
      | (go_split_ands; exact ⟨(Boxed.cells (by assumption)).2.2.1, (Boxed.cells (by assumption)).2.2.2.2.1⟩))
    (first
      | (go_at_call 12
         refine (@Append_S ⟨some gi⟩ nm HQ.out.2.2.1 d mb base q k g _ bn (bn + 3) B _ (show base ≤ W1.drew.heap.size from HP.out.2.2.2.2.2.2) HPD.out.1 HQ.out.2.2.2.1 (by have := HQ.out; omega) (by have := HQ.out; omega) (lent_own HPD.out.2.2.2 HQ.out.2.2.2.2.2 (by have := HQ.out; omega)).reads9).mono ?_
         rintro e w1 ⟨rfl, hd1, hk1⟩
         rw [HZ.out] at hd1
         rw [HZ.out]
         have hr1 : @RSig ⟨some gi⟩ w1 r base g := @RSig.keptD ⟨some gi⟩ _ _ _ _ _ _ _ _ _ HPD.out.2.1 HPD.out.1 hk1
         have hB1 : Boxed bx ⟨0, xs, nm, tt, ba, bn, bc, B, ka, kn, kc, K⟩ w1 := @Boxed.kept ⟨some gi⟩ _ _ _ _ _ _ _ _ HPD.out.2.2.1 HPD.out.1 hk1
         have hl1 : w1.heap[gi]? = some (.cells (u8s (lentA B 3)).toArray 5 (0, 0)) := lent_kept (Z := ⟨some gi⟩) HPD.out.2.2.2 HPD.out.1 hk1 (by decide)
         have hbb1 : Below base W w1 := (HP.out.2.2.1.trans (Below.refl base W1).drew).trans hk1.below
         have hin1 := Lib.hid (@DSig.fit ⟨some gi⟩ _ _ _ _ _ HPD.out.1))
      | (go_at_call 21
         go_split_ands
         refine (@rAppend_S ⟨some gi⟩ nm HQ.out.2.2.1 r base q k g _ _ _ B _ hr1 ⟨HQ.out.2.2.2.1, by have := HQ.out; omega, HQ.out.2.1, hin1.out.1, hin1.out.2⟩ (zw_some (heap_lt hl1)) (HX.out _ hbb1) (fun wa wb ha hb => HX.out _ ((hbb1.trans (ha.mono (Nat.le_trans HP.out.2.2.2.2.2.2 (show W1.heap.size ≤ w1.heap.size from hk1.below.size)))).trans hb.below)) (by have := HQ.out; omega)).mono ?_
         rintro e w2 ⟨rfl, hr2, hm2⟩
         rw [HZ.out] at hr2
         rw [HZ.out]
         have hB2 : Boxed bx ⟨0, xs, nm, tt, ba, bn, bc, B, ka, kn, kc, K⟩ w2 := @Boxed.moved ⟨some gi⟩ _ _ _ _ _ _ _ hB1 hr1 hm2
         have hl2 : w2.heap[gi]? = some (.cells (u8s (lentA B 3)).toArray 5 (0, 0)) := (@RefAt.kept ⟨some gi⟩ _ _ _ _ _ _ _ _ _ hr1 hm2 _ _ _ _ hl1 (by decide) (by decide)).trans hl1
         have hd2 := @DSig.keptR ⟨some gi⟩ _ _ _ _ _ _ _ _ _ hd1 hr1 hm2
         have hbb2 := hbb1.trans hm2.below)
      | (go_at_call 58
         go_split_ands
         refine (KeptBytes_any gi bn (lentA B 3) ba bc B _ hl2 (by rw [lentA_length, HQ.out.2.2.2.2.2]) (HX.out _ hbb2) (by have := HQ.out; omega)).mono ?_
         rintro e w3 ⟨rfl, hb3⟩
         have hB3 : Boxed bx ⟨0, xs, nm, tt, ba, bn, bc, B, ka, kn, kc, K⟩ w3 := hB2.later hb3
         rw [show (lentA B 3 == lentA B 3) = true by simp]))
  all_goals
    have hl3 : w3.heap[gi]? = some (.cells (u8s (lentA B 3)).toArray 5 (0, 0)) := (hb3.block gi (heap_lt hl2)).trans hl2
    have hbb3 : Below base W w3 := hbb2.trans (hb3.mono (Nat.le_trans HP.out.2.2.2.2.2.2 (Nat.le_trans (show W1.heap.size ≤ w1.heap.size from hk1.below.size) hm2.below.size)))
    have HF := Lib.hid (And.intro (@DSig.later ⟨some gi⟩ _ _ _ _ _ _ hd2 hb3) (And.intro (@RSig.later ⟨some gi⟩ _ _ _ _ _ hr2 hb3) (And.intro hl3 (And.intro hbb3 (Nat.le_trans HA.out.1.hb hbb3.size)))))
    have HOW := Lib.hid (lent_own hl3 HQ.out.2.2.2.2.2 (by have := HQ.out; omega))
    clear hd1 hk1 hr1 hr2 hm2 hB1 hB2 hB3 hl1 hl2 hl3 hbb1 hbb2 hbb3 hd2 hb3 hin1
    go_wp2_with fail
    refine (OverBytes_any _ gi B _ HOW.out).mono ?_
    rintro e w4 ⟨rfl, hg4⟩
    have HG := Lib.hid (act_over HF.out.1 HF.out.2.1 HF.out.2.2.1 hg4 (show Lim (q + bn + 1) (k + 1) g' by rw [show g' = (appG nm B g).2 by rw [HZ.out]]; exact HQ.out.2.2.2.1.app (by have := HQ.out; omega) (by omega)) HF.out.2.2.2.2 HP.out.2.2.2.2.2.1)
    clear hg4
    go_wp2_with fail
    go_ret
    exact ⟨rfl, ⟨_, HG.out.1⟩, (((HA.out.2.1.mono HQ.out.2.2.2.2.1).trans HF.out.2.2.2.1).trans HG.out.2)⟩
set_option maxRecDepth 100000 in
theorem act_app1 (hk : x.kind = 1) (h : ActAt w d mb r base q k g) (hq : q + x.bn ≤ 4294967296) (hk9 : k ≤ 100000) (hnm : x.nm.size ≤ 1099511627776) (hx : ∀ w', Below base w w' → ActOk w' x) :
    Calls Try.prog 32 #[.pointer (some ⟨d, 0, none⟩), .pointer (some ⟨r, 0, none⟩), .agg x.row] w fun e w' => ActR d mb r base (q + x.bn + 1) (k + 1) w e w' := by
  obtain ⟨xk, xs, nm, tt, ba, bn, bc, B, ka, kn, kc, K⟩ := x
  dsimp only at hk hq hnm ⊢
  obtain rfl : xk = 1 := hk
  have hw0 : Below w.heap.size w (w.alloc (.cells #[.int .i64 1, .int .i64 xs, .string nm, .string tt, .slice ba bn bc, .slice ka kn kc] 60)) := (Below.refl _ _).alloc (Nat.le_refl _) _
  have hbx := heap_alloc_new w (.cells #[.int .i64 1, .int .i64 xs, .string nm, .string tt, .slice ba bn bc, .slice ka kn kc] 60)
  obtain ⟨bx, hbe⟩ : ∃ b, b = w.heap.size := ⟨_, rfl⟩
  obtain ⟨z, g', hzg⟩ : ∃ z g', appG nm B g = (z, g') := ⟨_, _, rfl⟩
  change Calls Try.prog 32 #[.pointer (some ⟨d, 0, none⟩), .pointer (some ⟨r, 0, none⟩), .agg #[.int .i64 1, .int .i64 xs, .string nm, .string tt, .slice ba bn bc, .slice ka kn kc]] w _
  go_enter Try.func32, Try.ntmps32
  rw [← hbe] at hbx
  generalize hW : (w.alloc (.cells #[.int .i64 1, .int .i64 xs, .string nm, .string tt, .slice ba bn bc, .slice ka kn kc] 60)) = W at hw0 hbx
  have hBX : Boxed bx ⟨1, xs, nm, tt, ba, bn, bc, B, ka, kn, kc, K⟩ W := hbx
  have HA := Lib.hid (And.intro (h.later hw0) (And.intro hw0 hBX))
  have HX := Lib.hid (fun w' (hb : Below base W w') => (hx w' ((hw0.mono h.hb).trans hb)).B)
  dsimp only at HX
  have hBl : B.length = bn := (HX.out W (Below.refl _ _)).1
  have HZ := Lib.hid hzg
  have HQ := Lib.hid (And.intro hq (And.intro hk9 (And.intro hnm (And.intro h.lim (And.intro h.hb hBl)))))
  have hzz : (z == z) = true := by simp
  obtain ⟨c0, c1, c2, c3, c4, c5⟩ := hBX.cells
  dsimp only at c0 c1 c2 c3 c4 c5
  rw [hbe] at c0 c4
  have HBE := Lib.hid hbe
  clear hBX hbx hw0 h hzg hq hk9 hbe hnm hx hBl c1 c2 c3 c5
  go_wp2_with fail
  refine (LentBytes_any ba bn bc B W (HX.out W (Below.refl _ _)) (by have := HQ.out.1; omega)).mono ?_
  rintro e W1 ⟨gi, rfl, hg1, hlc, hb1⟩
  have hgl : gi < W1.heap.size := heap_lt hlc
  obtain ⟨hd0, hr0⟩ := HA.out.1.zoned hb1 hg1 hgl
  have hbW : Below base W W1 := hb1.mono HA.out.1.hb
  have hBX1 : Boxed bx ⟨1, xs, nm, tt, ba, bn, bc, B, ka, kn, kc, K⟩ W1 := HA.out.2.2.later hb1
  have HP := Lib.hid (And.intro hd0 (And.intro hr0 (And.intro hbW (And.intro hBX1 (And.intro hlc (And.intro (Nat.le_trans HA.out.1.hb hg1) (Nat.le_trans HA.out.1.hb hb1.size)))))))
  have HPD := Lib.hid (And.intro (@DSig.later ⟨some gi⟩ _ _ _ _ _ _ hd0 (Below.refl W1.heap.size W1).drew) (And.intro (@RSig.later ⟨some gi⟩ _ _ _ _ _ hr0 (Below.refl W1.heap.size W1).drew) (And.intro (show Boxed bx ⟨1, xs, nm, tt, ba, bn, bc, B, ka, kn, kc, K⟩ W1.drew from hBX1) (show W1.drew.heap[gi]? = some (.cells (u8s (lentA B 3)).toArray 5 (0, 0)) from hlc))))
  have d2 := (hBX1.cells).2.2.1
  have d4 := (hBX1.cells).2.2.2.2.1
  dsimp only at d2 d4
  clear hg1 hlc hb1 hgl hd0 hr0 hbW hBX1 c0 c4
  go_wp2_with fail
  rw [← HBE.out]
  go_region_held3 (fun w' => w'.cell? ⟨bx, 2, none⟩ = some (.string nm) ∧ w'.cell? ⟨bx, 4, none⟩ = some (.slice ba bn bc))
    (first
      | (exact ⟨d2, d4⟩)
      | (go_split_ands; exact ⟨(Boxed.cells (by assumption)).2.2.1, (Boxed.cells (by assumption)).2.2.2.2.1⟩))
    (first
      | (go_at_call 12
         refine (@Append_S ⟨some gi⟩ nm HQ.out.2.2.1 d mb base q k g _ bn (bn + 3) B _ (show base ≤ W1.drew.heap.size from HP.out.2.2.2.2.2.2) HPD.out.1 HQ.out.2.2.2.1 (by have := HQ.out; omega) (by have := HQ.out; omega) (lent_own HPD.out.2.2.2 HQ.out.2.2.2.2.2 (by have := HQ.out; omega)).reads9).mono ?_
         rintro e w1 ⟨rfl, hd1, hk1⟩
         rw [HZ.out] at hd1
         rw [HZ.out]
         have hr1 : @RSig ⟨some gi⟩ w1 r base g := @RSig.keptD ⟨some gi⟩ _ _ _ _ _ _ _ _ _ HPD.out.2.1 HPD.out.1 hk1
         have hB1 : Boxed bx ⟨1, xs, nm, tt, ba, bn, bc, B, ka, kn, kc, K⟩ w1 := @Boxed.kept ⟨some gi⟩ _ _ _ _ _ _ _ _ HPD.out.2.2.1 HPD.out.1 hk1
         have hl1 : w1.heap[gi]? = some (.cells (u8s (lentA B 3)).toArray 5 (0, 0)) := lent_kept (Z := ⟨some gi⟩) HPD.out.2.2.2 HPD.out.1 hk1 (by decide)
         have hbb1 : Below base W w1 := (HP.out.2.2.1.trans (Below.refl base W1).drew).trans hk1.below
         have hin1 := Lib.hid (@DSig.fit ⟨some gi⟩ _ _ _ _ _ HPD.out.1))
      | (go_at_call 21
         go_split_ands
         refine (@rAppend_S ⟨some gi⟩ nm HQ.out.2.2.1 r base q k g _ _ _ B _ hr1 ⟨HQ.out.2.2.2.1, by have := HQ.out; omega, HQ.out.2.1, hin1.out.1, hin1.out.2⟩ (zw_some (heap_lt hl1)) (HX.out _ hbb1) (fun wa wb ha hb => HX.out _ ((hbb1.trans (ha.mono (Nat.le_trans HP.out.2.2.2.2.2.2 (show W1.heap.size ≤ w1.heap.size from hk1.below.size)))).trans hb.below)) (by have := HQ.out; omega)).mono ?_
         rintro e w2 ⟨rfl, hr2, hm2⟩
         rw [HZ.out] at hr2
         rw [HZ.out]
         have hB2 : Boxed bx ⟨1, xs, nm, tt, ba, bn, bc, B, ka, kn, kc, K⟩ w2 := @Boxed.moved ⟨some gi⟩ _ _ _ _ _ _ _ hB1 hr1 hm2
         have hl2 : w2.heap[gi]? = some (.cells (u8s (lentA B 3)).toArray 5 (0, 0)) := (@RefAt.kept ⟨some gi⟩ _ _ _ _ _ _ _ _ _ hr1 hm2 _ _ _ _ hl1 (by decide) (by decide)).trans hl1
         have hd2 := @DSig.keptR ⟨some gi⟩ _ _ _ _ _ _ _ _ _ hd1 hr1 hm2
         have hbb2 := hbb1.trans hm2.below)
      | (go_at_call 58
         go_split_ands
         refine (KeptBytes_any gi bn (lentA B 3) ba bc B _ hl2 (by rw [lentA_length, HQ.out.2.2.2.2.2]) (HX.out _ hbb2) (by have := HQ.out; omega)).mono ?_
         rintro e w3 ⟨rfl, hb3⟩
         have hB3 : Boxed bx ⟨1, xs, nm, tt, ba, bn, bc, B, ka, kn, kc, K⟩ w3 := hB2.later hb3
         rw [show (lentA B 3 == lentA B 3) = true by simp]))
  all_goals
    have hl3 : w3.heap[gi]? = some (.cells (u8s (lentA B 3)).toArray 5 (0, 0)) := (hb3.block gi (heap_lt hl2)).trans hl2
    have hbb3 : Below base W w3 := hbb2.trans (hb3.mono (Nat.le_trans HP.out.2.2.2.2.2.2 (Nat.le_trans (show W1.heap.size ≤ w1.heap.size from hk1.below.size) hm2.below.size)))
    have HF := Lib.hid (And.intro (@DSig.later ⟨some gi⟩ _ _ _ _ _ _ hd2 hb3) (And.intro (@RSig.later ⟨some gi⟩ _ _ _ _ _ hr2 hb3) (And.intro hl3 (And.intro hbb3 (Nat.le_trans HA.out.1.hb hbb3.size)))))
    have HOW := Lib.hid (lent_own hl3 HQ.out.2.2.2.2.2 (by have := HQ.out; omega))
    clear hd1 hk1 hr1 hr2 hm2 hB1 hB2 hB3 hl1 hl2 hl3 hbb1 hbb2 hbb3 hd2 hb3 hin1
    go_wp2_with fail
    refine (OverBytes_any _ gi B _ HOW.out).mono ?_
    rintro e w4 ⟨rfl, hg4⟩
    have HG := Lib.hid (act_over HF.out.1 HF.out.2.1 HF.out.2.2.1 hg4 (show Lim (q + bn + 1) (k + 1) g' by rw [show g' = (appG nm B g).2 by rw [HZ.out]]; exact HQ.out.2.2.2.1.app (by have := HQ.out; omega) (by omega)) HF.out.2.2.2.2 HP.out.2.2.2.2.2.1)
    clear hg4
    go_wp2_with fail
    go_ret
    exact ⟨rfl, ⟨_, HG.out.1⟩, (((HA.out.2.1.mono HQ.out.2.2.2.2.1).trans HF.out.2.2.2.1).trans HG.out.2)⟩
end
end Go.Proofs.Ytmpjjkfbojhfoaa

/- layer 27's statements: act, a read; a crash -/
set_option linter.unusedSimpArgs false
set_option linter.unusedVariables false
namespace Go.Proofs.Ytmpjjkfbojhfoaa
open Go.RowKit
section
variable {d mb r base q k : Nat} {g : Sig} {w : World} {x : ActV}
theorem ActAt.zonedO {W w1 : World} {zg : Option Nat} (h : ActAt W d mb r base q k g) (hb : Below W.heap.size W w1) (hv : ∀ k, zg = some k → W.heap.size ≤ k ∧ k < w1.heap.size) : @DSig ⟨zg⟩ w1 d mb base g ∧ @RSig ⟨zg⟩ w1 r base g :=
  ⟨DSig.rezone (Z1 := ⟨none⟩) (Z2 := ⟨zg⟩) h.ds hb.size (fun j hj _ => hb.block j hj) (fun k hk => by cases hk) (fun k hk => ⟨.inr (hv k hk).1, (hv k hk).2⟩), RSig.rezone (Z1 := ⟨none⟩) (Z2 := ⟨zg⟩) h.rs (fun j hj _ => hb.block j hj) (fun k hk => by cases hk) (fun k hk => .inr (hv k hk).1)⟩
theorem act_overO {w3 w4 : World} {zg : Option Nat} {q' k' : Nat} {g' : Sig} (hd : @DSig ⟨zg⟩ w3 d mb base g') (hr : @RSig ⟨zg⟩ w3 r base g') (hty : ∀ k, zg = some k → ∃ c fr, w3.heap[k]? = some (.cells c 5 fr)) (hg : w3.grownBy w4 zg) (hl : Lim q' k' g') (hb : base ≤ w3.heap.size) (hb2 : ∀ k, zg = some k → base ≤ k) : ActAt w4 d mb r base q' k' g' ∧ Below base w3 w4 := by
  have hbl : ∀ j, j < w3.heap.size → zg ≠ some j → w4.heap[j]? = w3.heap[j]? := fun j hj hne => hg.block j hj (fun e => hne e.symm)
  exact ⟨⟨DSig.rezone (Z1 := ⟨zg⟩) (Z2 := ⟨none⟩) hd hg.size hbl hty (fun k hk => by cases hk), RSig.rezone (Z1 := ⟨zg⟩) (Z2 := ⟨none⟩) hr hbl hty (fun k hk => by cases hk), hl, Nat.le_trans hb hg.size⟩, (Below.refl base w3).grown hg hb hb2⟩
set_option maxRecDepth 100000 in
theorem act_read2 (hk : x.kind = 9) (h : ActAt w d mb r base q k g) (hq : q ≤ 4294967296) (hk9 : k ≤ 100000) :
    Calls Try.prog 32 #[.pointer (some ⟨d, 0, none⟩), .pointer (some ⟨r, 0, none⟩), .agg x.row] w fun e w' => ActR d mb r base q k w e w' ∧ Below w.heap.size w w' := by
  obtain ⟨xk, xs, nm, tt, ba, bn, bc, B, ka, kn, kc, K⟩ := x
  obtain rfl : xk = 9 := hk
  have hw0 : Below w.heap.size w (w.alloc (.cells #[.int .i64 9, .int .i64 xs, .string nm, .string tt, .slice ba bn bc, .slice ka kn kc] 60)) := (Below.refl _ _).alloc (Nat.le_refl _) _
  have hbx := heap_alloc_new w (.cells #[.int .i64 9, .int .i64 xs, .string nm, .string tt, .slice ba bn bc, .slice ka kn kc] 60)
  obtain ⟨bx, hbe⟩ : ∃ b, b = w.heap.size := ⟨_, rfl⟩
  obtain ⟨z, l, hzg⟩ : ∃ z l, readG nm g = (z, l) := ⟨_, _, rfl⟩
  change Calls Try.prog 32 #[.pointer (some ⟨d, 0, none⟩), .pointer (some ⟨r, 0, none⟩), .agg #[.int .i64 9, .int .i64 xs, .string nm, .string tt, .slice ba bn bc, .slice ka kn kc]] w _
  go_enter Try.func32, Try.ntmps32
  rw [← hbe] at hbx
  generalize hW : (w.alloc (.cells #[.int .i64 9, .int .i64 xs, .string nm, .string tt, .slice ba bn bc, .slice ka kn kc] 60)) = W at hw0 hbx
  have hBX : Boxed bx ⟨9, xs, nm, tt, ba, bn, bc, B, ka, kn, kc, K⟩ W := hbx
  have HA := Lib.hid (And.intro (h.later hw0) (And.intro hw0 hBX))
  have HZ := Lib.hid hzg
  have HQ := Lib.hid (And.intro hq (And.intro hk9 (And.intro h.lim h.hb)))
  have hzz : (z == z) = true := by simp
  obtain ⟨c0, c1, c2, c3, c4, c5⟩ := hBX.cells
  dsimp only at c0 c1 c2 c3 c4 c5
  rw [hbe] at c0 c2
  have HBE := Lib.hid hbe
  clear hBX hbx hw0 h hzg hq hk9 hbe c1 c3 c4 c5
  go_wp2_with fail
  refine (@Read_S ⟨none⟩ nm d mb base g W HA.out.1.ds).mono ?_
  rintro e w1 ⟨v, rfl, hv, hb1⟩
  rw [HZ.out] at hv ⊢
  dsimp only at hv ⊢
  obtain ⟨av, cv, rfl, hbv, _⟩ := hv.bytes
  have hA1 := HA.out.1.later hb1
  have hB1 : Boxed bx ⟨9, xs, nm, tt, ba, bn, bc, B, ka, kn, kc, K⟩ w1 := HA.out.2.2.later hb1
  have d2 := hB1.cells.2.2.1
  dsimp only at d2
  rw [HBE.out] at d2
  have H1 := Lib.hid (And.intro hA1 (And.intro hb1 (And.intro hv hbv)))
  clear hA1 hB1 hb1 hv hbv c0 c2
  go_wp2_with fail
  refine (@rRead_S ⟨none⟩ nm r base q k g w1 H1.out.1.rs (H1.out.1.rin HQ.out.1 HQ.out.2.1)).mono ?_
  rintro e w2 ⟨v2, rfl, hv2, hb2⟩
  rw [HZ.out] at hv2 ⊢
  dsimp only at hv2 ⊢
  obtain ⟨av2, cv2, rfl, hbv2, _⟩ := hv2.bytes
  have H2 := Lib.hid (And.intro hb2 (And.intro (H1.out.2.2.2.later hb2) hbv2))
  clear hv2 hb2 hbv2 d2
  go_wp2_with fail
  refine (SameBytes_any _ _ _ _ _ _ l l w2 H2.out.2.1 H2.out.2.2).mono ?_
  rintro e w3 ⟨rfl, rfl⟩
  rw [show (l == l) = true by simp]
  go_wp2_with fail
  have hb12 : Below W.heap.size W w2 := H1.out.2.1.trans (H2.out.1.mono H1.out.2.1.size)
  have hv2 := H1.out.2.2.1.later H2.out.1
  have HO := Lib.hid (And.intro hb12 hv2)
  refine (OverBytes_any _ _ l w2 hv2).mono ?_
  rintro e w4 ⟨rfl, hg4⟩
  obtain ⟨z1, z2⟩ := HA.out.1.zonedO (zg := (Value.slice av l.length cv).ownBlock) HO.out.1 (fun k hk => HO.out.2.1.lt k hk)
  have HG := Lib.hid (act_overO z1 z2 (fun k hk => HO.out.2.typed hk) hg4 HQ.out.2.2.1 (Nat.le_trans HA.out.1.hb HO.out.1.size) (fun k hk => Nat.le_trans HA.out.1.hb (HO.out.2.1.lt k hk).1))
  have HN := Lib.hid (HA.out.2.1.trans ((HO.out.1.mono HA.out.2.1.size).trans ((Below.refl w.heap.size w2).grown hg4 (Nat.le_trans HA.out.2.1.size HO.out.1.size) (fun k hk => Nat.le_trans HA.out.2.1.size (HO.out.2.1.lt k hk).1))))
  clear hg4 z1 z2 hb12 hv2
  go_wp2_with fail
  go_ret
  exact ⟨⟨rfl, ⟨_, HG.out.1⟩, (HA.out.2.1.mono HQ.out.2.2.2).trans ((HO.out.1.mono HA.out.1.hb).trans HG.out.2)⟩, HN.out⟩
theorem act_read (hk : x.kind = 9) (h : ActAt w d mb r base q k g) (hq : q ≤ 4294967296) (hk9 : k ≤ 100000) :
    Calls Try.prog 32 #[.pointer (some ⟨d, 0, none⟩), .pointer (some ⟨r, 0, none⟩), .agg x.row] w fun e w' => ActR d mb r base q k w e w' :=
  (act_read2 hk h hq hk9).mono fun _ _ h => h.1
end
end Go.Proofs.Ytmpjjkfbojhfoaa

/- layer 27's statements: act, a crash; any call -/
set_option linter.unusedSimpArgs false
set_option linter.unusedVariables false
namespace Go.Proofs.Ytmpjjkfbojhfoaa
open Go.RowKit
section
variable {d mb r base q k : Nat} {g : Sig} {w : World} {x : ActV}
theorem lent_keeps {w : World} {g n : Nat} {K : List Int} (hg : w.heap[g]? = some (.cells (flatI (lentI K 3)).toArray 3 (0, 0))) (hl : K.length = n) (hn : n ≤ 4294967296) (h64 : ∀ z ∈ K, In64 z) : IsKeeps w (some ⟨g, 0, none⟩) n (n + 3) K := by
  subst hl
  refine ⟨rfl, by omega, by unfold maxLen; omega, (fun e => by cases e), fun i hi => ⟨g, 0, _, _, _, K.getD i 0, rfl, hg, by decide, ?_, ?_, ?_⟩⟩
  · rw [List.getElem?_toArray, Nat.zero_add]
    have h1 : (lentI K 3).getD i 0 = K.getD i 0 := by
      rw [List.getD_eq_getElem?_getD, lentI_get K 3 i (by omega), if_pos hi]
      rfl
    rw [flatI_get _ i (by rw [lentI_length]; omega), h1]
  · rw [List.getD_eq_getElem?_getD, List.getElem?_eq_getElem hi]
    rfl
  · have hm : K.getD i 0 ∈ K := by
      rw [List.getD_eq_getElem?_getD, List.getElem?_eq_getElem hi]
      exact List.getElem_mem hi
    exact h64 _ hm
theorem ints_at {w : World} {ao : Option Addr} {n cap : Nat} {K : List Int} (h : IsInts w ao n cap K ∧ ∀ z ∈ K, In64 z) {i : Nat} (hi : i < n) : ∃ b off x, ao = some ⟨b, off, none⟩ ∧ w.cell? ⟨b, off + i, none⟩ = some (.int .i64 x) ∧ K.getD i 0 = x ∧ -9223372036854775808 ≤ x ∧ x ≤ 9223372036854775807 := by
  obtain ⟨b, off, e, hc⟩ := h.1.2.2.2.1 (by omega)
  have hl := h.1.1
  refine ⟨b, off, _, e, hc i hi, rfl, h.2 _ ?_⟩
  rw [List.getD_eq_getElem?_getD, List.getElem?_eq_getElem (by omega)]
  exact List.getElem_mem (by omega)
set_option maxRecDepth 100000 in
theorem act_crash (hk : x.kind = 8) (h : ActAt w d mb r base q k g) (hq : q ≤ 4294967296) (hk9 : k ≤ 100000) (hkn : x.kn ≤ 100000) (hx : ∀ w', Below base w w' → ActOk w' x) :
    Calls Try.prog 32 #[.pointer (some ⟨d, 0, none⟩), .pointer (some ⟨r, 0, none⟩), .agg x.row] w fun e w' => ActR d mb r base q k w e w' := by
  obtain ⟨xk, xs, nm, tt, ba, bn, bc, B, ka, kn, kc, K⟩ := x
  dsimp only at hk hkn
  obtain rfl : xk = 8 := hk
  have hw0 : Below w.heap.size w (w.alloc (.cells #[.int .i64 8, .int .i64 xs, .string nm, .string tt, .slice ba bn bc, .slice ka kn kc] 60)) := (Below.refl _ _).alloc (Nat.le_refl _) _
  have hbx := heap_alloc_new w (.cells #[.int .i64 8, .int .i64 xs, .string nm, .string tt, .slice ba bn bc, .slice ka kn kc] 60)
  obtain ⟨bx, hbe⟩ : ∃ b, b = w.heap.size := ⟨_, rfl⟩
  obtain ⟨z, g', hzg⟩ : ∃ z g', crashG K g = (z, g') := ⟨_, _, rfl⟩
  change Calls Try.prog 32 #[.pointer (some ⟨d, 0, none⟩), .pointer (some ⟨r, 0, none⟩), .agg #[.int .i64 8, .int .i64 xs, .string nm, .string tt, .slice ba bn bc, .slice ka kn kc]] w _
  go_enter Try.func32, Try.ntmps32
  rw [← hbe] at hbx
  generalize hW : (w.alloc (.cells #[.int .i64 8, .int .i64 xs, .string nm, .string tt, .slice ba bn bc, .slice ka kn kc] 60)) = W at hw0 hbx
  have hBX : Boxed bx ⟨8, xs, nm, tt, ba, bn, bc, B, ka, kn, kc, K⟩ W := hbx
  have HA := Lib.hid (And.intro (h.later hw0) (And.intro hw0 hBX))
  have HX := Lib.hid (fun w' (hb : Below base W w') => (And.intro (hx w' ((hw0.mono h.hb).trans hb)).K (hx w' ((hw0.mono h.hb).trans hb)).K64))
  dsimp only at HX
  have HZ := Lib.hid hzg
  have HQ := Lib.hid (And.intro hq (And.intro hk9 (And.intro hkn (And.intro h.lim h.hb))))
  have HK := Lib.hid (HX.out W (Below.refl _ _))
  have hzz : (z == z) = true := by simp
  obtain ⟨c0, c1, c2, c3, c4, c5⟩ := hBX.cells
  dsimp only at c0 c1 c2 c3 c4 c5
  rw [hbe] at c0 c5
  have HBE := Lib.hid hbe
  clear hBX hbx hw0 h hzg hq hk9 hbe hx hkn c1 c2 c3 c4
  go_wp2_with fail
  refine (LentInts_any ka kn kc K W HK.out.1 (by have := HQ.out; omega)).mono ?_
  rintro e W1 ⟨gi, rfl, hg1, hlc, hb1⟩
  have hA1 := HA.out.1.later hb1
  have hbW : Below base W W1 := hb1.mono HA.out.1.hb
  have hBX1 : Boxed bx ⟨8, xs, nm, tt, ba, bn, bc, B, ka, kn, kc, K⟩ W1 := HA.out.2.2.later hb1
  have HP := Lib.hid (And.intro hA1 (And.intro hbW hlc))
  have HPD := Lib.hid (And.intro (hA1.later (Below.refl W1.heap.size W1).drew) (And.intro (show Boxed bx ⟨8, xs, nm, tt, ba, bn, bc, B, ka, kn, kc, K⟩ W1.drew from hBX1) (show W1.drew.heap[gi]? = some (.cells (flatI (lentI K 3)).toArray 3 (0, 0)) from hlc)))
  have d5 := (hBX1.cells).2.2.2.2.2
  dsimp only at d5
  clear hg1 hlc hb1 hA1 hbW hBX1 c0 c5
  go_wp2_with fail
  rw [← HBE.out]
  go_region_held3 (fun w' => w'.cell? ⟨bx, 5, none⟩ = some (.slice ka kn kc))
    (first
      | (exact d5)
      | (go_split_ands; exact (Boxed.cells (by assumption)).2.2.2.2.2))
    (first
      | (go_at_call 16
         refine (@Crash_S ⟨none⟩ _ kn (kn + 3) K d mb base g _ HPD.out.1.hb HPD.out.1.ds (lent_keeps HPD.out.2.2 HK.out.1.1 (by have := HQ.out; omega) HK.out.2)).mono ?_
         rintro e w1 ⟨rfl, hd1, hk1⟩
         rw [HZ.out] at hd1
         rw [HZ.out]
         have hr1 : @RSig ⟨none⟩ w1 r base g := @RSig.keptD ⟨none⟩ _ _ _ _ _ _ _ _ _ HPD.out.1.rs HPD.out.1.ds hk1
         have hB1 : Boxed bx ⟨8, xs, nm, tt, ba, bn, bc, B, ka, kn, kc, K⟩ w1 := @Boxed.kept ⟨none⟩ _ _ _ _ _ _ _ _ HPD.out.2.1 HPD.out.1.ds hk1
         have hl1 : w1.heap[gi]? = some (.cells (flatI (lentI K 3)).toArray 3 (0, 0)) := lent_kept (Z := ⟨none⟩) HPD.out.2.2 HPD.out.1.ds hk1 (by decide)
         have hbb1 : Below base W w1 := (HP.out.2.1.trans (Below.refl base W1).drew).trans hk1.below)
      | (go_at_call 66
         go_split_ands
         refine (@rCrash_S ⟨none⟩ r base q k g _ kn kc K _ (fun _ hk => by cases hk) hr1 (HPD.out.1.rin HQ.out.1 HQ.out.2.1) (Nat.le_trans HP.out.1.hb (show W1.heap.size ≤ w1.heap.size from hk1.below.size)) HK.out.1.1 ⟨HK.out.1.2.1, HK.out.1.2.2.1⟩ (fun wb hm i hi => ints_at (HX.out wb (hbb1.trans hm.below)) hi)).mono ?_
         rintro e w2 ⟨rfl, hr2, hm2⟩
         rw [HZ.out] at hr2
         rw [HZ.out]
         have hB2 : Boxed bx ⟨8, xs, nm, tt, ba, bn, bc, B, ka, kn, kc, K⟩ w2 := @Boxed.moved ⟨none⟩ _ _ _ _ _ _ _ hB1 hr1 hm2
         have hl2 : w2.heap[gi]? = some (.cells (flatI (lentI K 3)).toArray 3 (0, 0)) := (@RefAt.kept ⟨none⟩ _ _ _ _ _ _ _ _ _ hr1 hm2 _ _ _ _ hl1 (by decide) (by decide)).trans hl1
         have hd2 := @DSig.keptR ⟨none⟩ _ _ _ _ _ _ _ _ _ hd1 hr1 hm2
         have hbb2 := hbb1.trans hm2.below)
      | (go_at_call 67
         go_split_ands
         refine (KeptInts_any gi kn (lentI K 3) ka kc K _ hl2 (by rw [lentI_length, HK.out.1.1]) (HX.out _ hbb2).1 (by have := HQ.out; omega)).mono ?_
         rintro e w3 ⟨rfl, hb3⟩
         have hB3 : Boxed bx ⟨8, xs, nm, tt, ba, bn, bc, B, ka, kn, kc, K⟩ w3 := hB2.later hb3
         rw [show (lentI K 3 == lentI K 3) = true by simp]))
  all_goals
    have hbb3 : Below base W w3 := hbb2.trans (hb3.mono (Nat.le_trans HP.out.1.hb (Nat.le_trans (show W1.heap.size ≤ w1.heap.size from hk1.below.size) hm2.below.size)))
    have HF := Lib.hid (show (∃ g', ActAt w3 d mb r base q k g') ∧ Below base w w3 from ⟨⟨g', @DSig.later ⟨none⟩ _ _ _ _ _ _ hd2 hb3, @RSig.later ⟨none⟩ _ _ _ _ _ hr2 hb3, (by rw [show g' = (crashG K g).2 by rw [HZ.out]]; exact HQ.out.2.2.2.1.crash), Nat.le_trans HA.out.1.hb hbb3.size⟩, (HA.out.2.1.mono HQ.out.2.2.2.2).trans hbb3⟩)
    clear hd1 hk1 hr1 hr2 hm2 hB1 hB2 hB3 hl1 hl2 hbb1 hbb2 hbb3 hd2 hb3
    go_wp2_with fail
    go_ret
    exact ⟨rfl, HF.out⟩
end
end Go.Proofs.Ytmpjjkfbojhfoaa

/- layer 27's statements: act, any call; same -/
set_option linter.unusedSimpArgs false
set_option linter.unusedVariables false
namespace Go.Proofs.Ytmpjjkfbojhfoaa
open Go.RowKit
section
variable {d mb r base q k : Nat} {g : Sig} {w : World} {x : ActV}
theorem ActAt.mono {q' k' : Nat} (h : ActAt w d mb r base q k g) (hq : q ≤ q') (hk : k ≤ k') : ActAt w d mb r base q' k' g := ⟨h.ds, h.rs, h.lim.mono hq hk, h.hb⟩
theorem ActR.mono {q' k' : Nat} {e : Ending} {w' : World} (h : ActR d mb r base q k w e w') (hq : q ≤ q') (hk : k ≤ k') : ActR d mb r base q' k' w e w' := by
  obtain ⟨h1, ⟨g', h2⟩, h3⟩ := h
  exact ⟨h1, ⟨g', h2.mono hq hk⟩, h3⟩
theorem act_any (h : ActAt w d mb r base q k g) (hq : q + x.bn + 1 ≤ 4294967296) (hk9 : k ≤ 100000) (hnm : x.nm.size ≤ 1099511627776) (hto : x.«to».size ≤ 1099511627776) (hsz : x.size ≤ 9223372036854775807) (hkn : x.kn ≤ 100000) (hx : (0 ≤ x.kind ∧ x.kind ≤ 1) ∨ x.kind = 8 → ∀ w', Below base w w' → ActOk w' x) :
    Calls Try.prog 32 #[.pointer (some ⟨d, 0, none⟩), .pointer (some ⟨r, 0, none⟩), .agg x.row] w fun e w' => ActR d mb r base (q + x.bn + 1) (k + 1) w e w' := by
  by_cases h0 : x.kind = 0
  · exact act_app0 h0 h (by omega) hk9 hnm (hx (by omega))
  by_cases h1 : x.kind = 1
  · exact act_app1 h1 h (by omega) hk9 hnm (hx (by omega))
  by_cases h2 : x.kind = 2
  · exact (act_cut h2 h (by omega) hk9).mono fun e w' hr => hr.mono (by omega) (by omega)
  by_cases h3 : x.kind = 3
  · exact (act_sync3 h3 h (by omega) hk9).mono fun e w' hr => hr.mono (by omega) (by omega)
  by_cases h4 : x.kind = 4
  · exact (act_sync4 h4 h (by omega) hk9).mono fun e w' hr => hr.mono (by omega) (by omega)
  by_cases h5 : x.kind = 5
  · exact (act_ren h5 h (by omega) hk9 hto).mono fun e w' hr => hr.mono (by omega) (by omega)
  by_cases h6 : x.kind = 6
  · exact (act_rem h6 h (by omega) hk9).mono fun e w' hr => hr.mono (by omega) (by omega)
  by_cases h7 : x.kind = 7
  · exact (act_fuse h7 h (by omega) hk9 hsz).mono fun e w' hr => hr.mono (by omega) (by omega)
  by_cases h8 : x.kind = 8
  · exact (act_crash h8 h (by omega) hk9 hkn (hx (by omega))).mono fun e w' hr => hr.mono (by omega) (by omega)
  by_cases h9 : x.kind = 9
  · exact (act_read h9 h (by omega) hk9).mono fun e w' hr => hr.mono (by omega) (by omega)
  exact (act_else (by omega) h).mono fun e w' hr => hr.mono (by omega) (by omega)
theorem steps_act {w1 : World} (h : ActAt w d mb r base q k g) (hb : Below w.heap.size w w1) : Calls Try.prog 30 #[.pointer (some ⟨d, 0, none⟩)] w1 fun e w' => e = .returned (.int .i64 g.N) ∧ w1 = w' := by
  obtain ⟨M, C, fu, h1, h2, h3⟩ := (h.later hb).ds
  exact Steps_any d mb M _ fu g.out w1 (@DiskG.dm ⟨none⟩ _ _ _ _ _ _ _ _ _ h1)
theorem up_act {w1 : World} (h : ActAt w d mb r base q k g) (hb : Below w.heap.size w w1) : Calls Try.prog 25 #[.pointer (some ⟨d, 0, none⟩)] w1 fun e w' => e = .returned (.bool (!g.out)) ∧ w1 = w' := by
  obtain ⟨M, C, fu, h1, h2, h3⟩ := (h.later hb).ds
  exact Up_any d mb _ fu g.out w1 (@DiskG.dm ⟨none⟩ _ _ _ _ _ _ _ _ _ h1).2.2.1
set_option maxRecDepth 100000 in
theorem same_any (h : ActAt w d mb r base q k g) (hq : q ≤ 4294967296) (hk9 : k ≤ 100000) :
    Calls Try.prog 23 #[.pointer (some ⟨d, 0, none⟩), .pointer (some ⟨r, 0, none⟩)] w fun e w' => e = .returned (.bool true) ∧ Below w.heap.size w w' := by
  have HA := Lib.hid (And.intro h (h.rin hq hk9))
  obtain ⟨L, hL⟩ : ∃ L, L = g.R.map (·.1) := ⟨_, rfl⟩
  have HL := Lib.hid hL
  have hl16 : L.length ≤ 16 := by rw [hL, List.length_map]; exact (h.rin hq hk9).few
  obtain ⟨N, hN⟩ : ∃ N, N = g.N := ⟨_, rfl⟩
  obtain ⟨out, hout⟩ : ∃ o, o = g.out := ⟨_, rfl⟩
  have HN := Lib.hid (And.intro hN hout)
  have hNN : (N == N) = true := by simp
  have hNN2 : (N != N) = false := by simp
  have ho2 : (!out == out) = false := by cases out <;> rfl
  have ho3 : ((!out) == out) = false := by cases out <;> rfl
  clear h hq hk9 hL hN hout
  go_enter Try.func23, Try.ntmps23
  go_wp2_with fail
  refine (@rNames_S ⟨none⟩ r base q k g w HA.out.1.rs HA.out.2).mono ?_
  rintro e w1 ⟨v, rfl, hv, hb1⟩
  rw [← HL.out] at hv
  obtain ⟨va, vc, rfl, hvt⟩ := hv.texts
  have H1 := Lib.hid (And.intro hb1 (And.intro hvt (And.intro (HA.out.1.later hb1) (HA.out.1.later (hb1.trans (Below.refl _ w1).drew)))))
  clear hv hb1 hvt
  have hrow : ∀ w', Below w1.heap.size w1 w' → w'.cell? ⟨r, 1, none⟩ = some (.int .i64 N) ∧ w'.cell? ⟨r, 4, none⟩ = some (.bool out) := fun w' hb => by
    obtain ⟨v, hr⟩ := RefAt.row (@RSig.later ⟨none⟩ _ _ _ _ _ H1.out.2.2.1.rs hb)
    rw [HN.out.1, HN.out.2]
    exact ⟨hr.cells.2.1, hr.cells.2.2.2.2⟩
  have HR := Lib.hid hrow
  clear hrow
  go_wp2_with fail
  have p1 := (HR.out w1 (Below.refl _ _)).1
  have p4 := (HR.out w1 (Below.refl _ _)).2
  go_region_held3 (fun w' => w'.cell? ⟨r, 1, none⟩ = some (.int .i64 N) ∧ w'.cell? ⟨r, 4, none⟩ = some (.bool out))
    (first
      | (exact ⟨p1, p4⟩)
      | (go_split_ands; exact HR.out _ (by assumption)))
    (first
      | (go_at_call 17
         refine (@Names_S ⟨none⟩ d mb base g _ H1.out.2.2.2.ds).mono ?_
         rintro e w2 ⟨v2, rfl, hv2, hb2⟩
         rw [← HL.out] at hv2
         obtain ⟨va2, vc2, rfl, hvt2⟩ := hv2.texts
         have hbb2 : Below w1.heap.size w1 w2 := (Below.refl w1.heap.size w1).drew.trans hb2)
      | (go_at_call 19
         go_split_ands
         refine (SameTexts_any _ _ _ _ _ _ L L _ hvt2 (H1.out.2.1.later hbb2)).mono ?_
         rintro e w3 ⟨rr, rfl, hrr, hb3⟩
         obtain rfl : rr = true := hrr.2 rfl
         have hbb3 : Below w1.heap.size w1 w3 := hbb2.trans (hb3.mono hbb2.size))
      | (go_at_call 30
         go_split_ands
         refine (@steps_act d mb r base q k g w1 _ H1.out.2.2.1 hbb3).mono ?_
         rintro e w4 ⟨rfl, rfl⟩
         rw [← HN.out.1])
      | (go_at_call 25
         go_split_ands
         refine (@up_act d mb r base q k g w1 _ H1.out.2.2.1 hbb3).mono ?_
         rintro e w5 ⟨rfl, rfl⟩
         rw [← HN.out.2]))
  all_goals
    have HW3 := Lib.hid hbb3
    clear hv2 hb2 hvt2 hbb2 hb3 hbb3 hrr
    obtain ⟨n, hn⟩ : ∃ n, n = L.length := ⟨_, rfl⟩
    have hn0 : (0 : Int) ≤ (n : Int) := by omega
    rw [← hn] at H1 hl16 ⊢
    have HNL := Lib.hid hn
    clear hn p1 p4
    go_wp2_with fail
    go_loopw [6] (fun i wr => ∃ k : Nat, k ≤ n ∧ i = .int .i64 k ∧ Hid (Below w1.heap.size w1 wr)) (fun i _ => n - (intOf i).toNat)
    case atStart => exact ⟨0, by omega, rfl, HW3⟩
    case round =>
      obtain ⟨k, hk, rfl, hbr⟩ := hrel
      by_cases hlt : k < n
      · have hi0 : (0 : Int) ≤ (k : Int) := by omega
        have hi1 : (k : Int) < (n : Int) := by omega
        obtain ⟨b, off, rfl, hc⟩ := H1.out.2.1.2.2.2 (by omega)
        have hck : wr.cell? ⟨b, off + k, none⟩ = some (.string (L.getD k ByteArray.empty)) := (hbr.out.cell (block_lt_of_cell (hc k hlt))).trans (hc k hlt)
        obtain ⟨s, hs⟩ : ∃ s, s = L.getD k ByteArray.empty := ⟨_, rfl⟩
        obtain ⟨z, hz⟩ : ∃ z, z = looseG s g := ⟨_, rfl⟩
        have hzz : (z != z) = false := by simp
        rw [← hs] at hck
        have HS := Lib.hid (And.intro hs hz)
        have HCK := Lib.hid hck
        clear hc hs hz
        go_wp2_with fail
        go_region_held3 (fun w' => w'.cell? ⟨b, off + k, none⟩ = some (.string s))
          (first
            | (exact HCK.out)
            | (go_split_ands; exact (Below.cell (by assumption) (block_lt_of_cell HCK.out)).trans HCK.out))
          (first
            | (go_at_call 15
               refine (@Loose_S ⟨none⟩ s d mb base g _ (H1.out.2.2.1.later (hbr.out.trans (Below.refl _ wr).drew)).ds).mono ?_
               rintro e w6 ⟨rfl, rfl⟩
               rw [← HS.out.2]
               have hb6 : Below wr.heap.size wr wr.drew := (Below.refl _ wr).drew)
            | (go_at_call 22
               go_split_ands
               refine (@rLoose_S ⟨none⟩ s r base q _ g _ (H1.out.2.2.1.later (hbr.out.trans (Below.refl _ wr).drew)).rs HA.out.2).mono ?_
               rintro e w7 ⟨rfl, hb7⟩
               rw [← HS.out.2]
               have hb8 : Below wr.heap.size wr w7 := (Below.refl wr.heap.size wr).drew.trans hb7))
        all_goals
          have HB8 := Lib.hid (hbr.out.trans (hb8.mono hbr.out.size))
          clear hb7 hb8 hb6
          go_wp2_with fail
          go_roundw
          case rel => exact ⟨k + 1, by omega, by go_num, HB8.out⟩
          case measure => simp [intOf]; omega
      · obtain rfl : k = n := by omega
        obtain ⟨s, hs⟩ : ∃ s, s = (⟨#[110, 111, 98, 111, 100, 121]⟩ : ByteArray) := ⟨_, rfl⟩
        obtain ⟨z, hz⟩ : ∃ z, z = looseG s g := ⟨_, rfl⟩
        have hzz : (z == z) = true := by simp
        have HS := Lib.hid (And.intro hs hz)
        clear hz hs
        go_wp2_with fail
        rw [← HS.out.1]
        refine (@Loose_S ⟨none⟩ s d mb base g wr (H1.out.2.2.1.later hbr.out).ds).mono ?_
        rintro e w6 ⟨rfl, rfl⟩
        rw [← HS.out.2]
        go_wp2_with fail
        rw [← HS.out.1]
        refine (@rLoose_S ⟨none⟩ s r base q _ g wr (H1.out.2.2.1.later hbr.out).rs HA.out.2).mono ?_
        rintro e w7 ⟨rfl, hb7⟩
        rw [← HS.out.2]
        have HB7 := Lib.hid (H1.out.1.trans ((hbr.out.trans (hb7.mono hbr.out.size)).mono H1.out.1.size))
        clear hb7
        go_wp2_with fail
        go_ret
        exact ⟨rfl, HB7.out⟩
end
end Go.Proofs.Ytmpjjkfbojhfoaa
