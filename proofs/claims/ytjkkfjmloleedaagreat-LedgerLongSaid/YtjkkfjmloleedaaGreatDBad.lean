/- a range over frame.frames: the law for the caller -/
import Derived.RangeFuncWrites
import Derived.Test.YtjkkfjmloleedaaGreatFrames
import Derived.Test.YtjkkfjmloleedaaGreatPFrame4
namespace Go.Proofs.YtjkkfjmloleedaaGreat
open Go.RowKit Go.Shelf
/-- how the body of a round is left. -/
def framesPost (B : Nat) (I : List (List UInt8) → Nat → World → Prop) (pre : List (List UInt8)) (k : Nat) (W : World) : Exit → Act → World → Prop
  | .normal, _, W' => KeepsFrom B W W' ∧ I pre k W'
  | .ret, _, _ => False
  | .exit _, _, _ => False
  | .goto _, _, _ => False
  | .panic _, _, _ => False
  | .outgrown, _, _ => False
theorem setCell_putObj (w : World) (a : Addr) (v : Value) (l : Nat) (o : Obj) (h : ¬ a.block = l) : (w.setCell a v).putObj l o = (w.putObj l o).setCell a v := by
  unfold World.setCell World.putObj
  simp only
  congr 1
  apply Array.ext_getElem?
  intro i
  simp only [Array.getElem?_modify, Array.getElem?_setIfInBounds, Array.size_modify]
  by_cases h1 : l = i
  · subst h1; simp [h]
  · simp [h1]
set_option maxHeartbeats 1000000 in
theorem wpIn_range_frames (m : Nat) {g : Operand} {ps : Array Tmp} {assign body : Code} {Q : Exit → Act → World → Prop} {a : Act} {w : World} (Bb Br Rb : Nat) (ao : Option Addr) (n cap : Nat) (bs : List UInt8)
    (hg : a.eval g = .func (.func 97) #[] #[.pointer (some ⟨Bb, 0, none⟩), .pointer (some ⟨Br, 0, none⟩)]) (hps : ps.size = 2) (hne : ¬ Br = Rb)
    (I : List (List UInt8) → Nat → World → Prop)
    (hIb : ∀ pre k A B, I pre k A → Below A.heap.size A B → I pre k B)
    (hIo : ∀ pre k A r o o', I pre k A → w.heap.size ≤ r → A.heap[r]? = some o → o.isCells = false → I pre k (A.putObj r o'))
    (hIm : ∀ pre k A, I pre k A → FramesMem ao n cap bs Bb Br Rb A) (hRb : Rb < w.heap.size)
    (h0 : I [] 0 w) (a₁ : Value → Value → Act)
    (hassign : ∀ (l : Nat) (x y : Value) (W : World) (K : Act → World → Prop), K (a₁ x y) W →
      assign.wpIn (Fence.wide.inRound l) m Tryz.prog (Exit.then K (fun _ _ _ => False)) { tmps := (ps.zip #[x, y]).foldl (fun t (p, v) => t.setIfInBounds p v) a.tmps, defers := [] } W)
    (hbody : ∀ (l : Nat) (pre : List (List UInt8)) (k : Nat) (r : List UInt8) (ao' : Option Addr) (n' cap' : Nat) (W : World), I pre k W → IsBytes W ao' n' cap' r → ao'.map (·.block) = ao.map (·.block) → k + r.length + 12 ≤ n → r.length ≤ 65536 → w.heap.size < W.heap.size →
      body.wpIn (Fence.wide.inRound l) m Tryz.prog (framesPost w.heap.size I (pre ++ [r]) (k + (r.length + 12)) W) (a₁ (.slice ao' n' cap') (.int .i64 ((k + (r.length + 12) : Nat) : Int))) W)
    (hdone : ∀ (D : Nat) (W : World), w.heap.size ≤ D → I (Fr.scanF bs).1 (Fr.scanF bs).2.1 W → (W.setCell ⟨Rb, 0, none⟩ (.int .i64 ((Fr.scanF bs).2.2 : Int))).heap[D]? = some (.deferred (some [])) →
      Q .normal { a with defers := { target := .collected D, args := #[] } :: a.defers } (W.setCell ⟨Rb, 0, none⟩ (.int .i64 ((Fr.scanF bs).2.2 : Int)))) :
    (Code.rangeFunc g ps assign body).wpIn Fence.wide (m + 2) Tryz.prog Q a w := by
  refine wpIn_rangeFunc ?_
  intro fn hfn
  have eround : Fence.wide.round = none := rfl
  rw [eround]
  obtain ⟨rec, hrec⟩ : ∃ rec : LoopState → Option Code → Loop, rec = fun st pe => { state := st, pending := pe, fn, tmps := a.tmps, params := ps, assign, body, defers := w.heap.size } := ⟨_, rfl⟩
  obtain ⟨W1, hW1⟩ : ∃ W1, (w.alloc (.deferred (some []))).alloc (.loop (rec .ready none)) = W1 := ⟨_, rfl⟩
  have hb1 : Below w.heap.size w W1 := by rw [← hW1]; exact ((Below.refl _ w).alloc (Nat.le_refl _) _).alloc (by simp) _
  have hL1 : W1.heap[w.heap.size + 1]? = some (.loop (rec .ready none)) := by
    rw [← hW1]; have := World.alloc_heap_new (w.alloc (.deferred (some []))) (.loop (rec .ready none)); rwa [World.size_alloc] at this
  have hK1 : W1.heap[w.heap.size]? = some (.deferred (some [])) := by
    rw [← hW1]; exact (Below.heap_alloc _ _ _ (by simp)).trans (World.alloc_heap_new w _)
  have hI1 : I [] 0 W1 := hIb _ _ _ _ h0 hb1
  refine ⟨w.heap.size + 1, [{ target := .collected w.heap.size, args := #[] }], W1, { target := .fn (.func 97) #[.pointer (some ⟨Bb, 0, none⟩), .pointer (some ⟨Br, 0, none⟩)], args := #[.func (.yield (w.heap.size + 1)) #[] #[]] }, W1, 97,
    #[.func (.yield (w.heap.size + 1)) #[] #[], .pointer (some ⟨Bb, 0, none⟩), .pointer (some ⟨Br, 0, none⟩)], W1, ?_, ?_, ?_, ?_, fun h => (by simp [Fence.wide] at h), ?_⟩
  · rw [← hW1, hrec]; exact run_enterLoop_outer _ _ _ _ _
  · simp only [resolve, hg]
    simp [go_sem]
  · intro f' hf'; trivial
  · simp [invoke, go_sem]
  · refine (frames1_in (m + 2 - 1) (w.heap.size + 1) Bb Br Rb ao n cap bs
      (fun pre k W => I pre k W ∧ W.heap[w.heap.size + 1]? = some (.loop (rec .ready none)) ∧ W.heap[w.heap.size]? = some (.deferred (some [])))
      (fun pre k A B hs hb => ⟨hIb _ _ _ _ hs.1 hb, (hb.block _ (Array.getElem?_eq_some_iff.1 hs.2.1).1).trans hs.2.1, (hb.block _ (Array.getElem?_eq_some_iff.1 hs.2.2).1).trans hs.2.2⟩)
      (fun pre k A hs => hIm _ _ _ hs.1) ?_ hne W1 ⟨hI1, hL1, hK1⟩).mono ?_
    · rintro pre k r ao' n' cap' W ⟨hi, hl, hk⟩ hbr hao hkn hr
      have hlt : w.heap.size + 1 < W.heap.size := (Array.getElem?_eq_some_iff.1 hl).1
      have hy := run_yield (P := Tryz.prog) (args := #[.slice ao' n' cap', .int .i64 ((k + (r.length + 12) : Nat) : Int)]) hl (by rw [hrec]; exact hps.symm)
      rw [hrec] at hy
      refine ⟨fn, _, assign, body, hy, roundIn_of_wpIn hfn ?_⟩
      rw [show m + 2 - 1 - 1 = m by omega]
      refine hassign _ _ _ W _ ⟨_, run_beginRound hl (by rw [hrec]), ?_⟩
      obtain ⟨W2, hW2⟩ : ∃ W2, W2 = W.putObj (w.heap.size + 1) (.loop { rec .ready none with state := .busy }) := ⟨_, rfl⟩
      have hl2 : W2.heap[w.heap.size + 1]? = some (.loop { rec .ready none with state := .busy }) := by rw [hW2]; exact World.putObj_heap_same hlt
      have hk2 : W2.heap[w.heap.size]? = some (.deferred (some [])) := by rw [hW2]; exact (World.putObj_heap_other (by omega)).trans hk
      have hi2 : I pre k W2 := by rw [hW2]; exact hIo _ _ _ _ _ _ hi (by omega) hl rfl
      have hbr2 : IsBytes W2 ao' n' cap' r := by
        refine ⟨hbr.1, hbr.2.1, hbr.2.2.1, fun hl' => ?_, hbr.2.2.2.2⟩
        obtain ⟨b, off, e, hc⟩ := hbr.2.2.2.1 hl'
        refine ⟨b, off, e, fun i hi' => ?_⟩
        have hci := hc i hi'
        rw [hW2, ← hci]
        have hbl : ¬ b = w.heap.size + 1 := by
          intro e'
          have h0 := hc 0 (by cases r; exact absurd rfl hl'; simp)
          rw [e'] at h0
          simp [World.cell?, hl] at h0
        exact World.cell?_of_block (by exact World.putObj_heap_other hbl)
      rw [← hW2]
      have hsz : w.heap.size < W2.heap.size := by rw [hW2]; simp; omega
      refine wpIn_mono (hbody _ pre k r ao' n' cap' W2 hi2 hbr2 hao hkn hr hsz) ?_
      rintro e a3 W3 hp
      cases e with
      | normal =>
        obtain ⟨hk3, hi3⟩ := hp
        have hl3 := hk3.same _ _ (by omega) hl2 rfl
        have hd3 := hk3.same _ _ (Nat.le_refl _) hk2 rfl
        have hend := run_endRound (P := Tryz.prog) none hl3
        rw [hrec] at hend
        refine ⟨_, _, hend, rfl, ?_⟩
        refine ⟨hIo _ _ _ _ _ _ hi3 (by omega) hl3 rfl, ?_, (World.putObj_heap_other (by omega)).trans hd3⟩
        rw [hrec]
        exact World.putObj_heap_same (Array.getElem?_eq_some_iff.1 hl3).1
      | ret => exact hp.elim
      | exit id => exact hp.elim
      | goto t => exact hp.elim
      | panic ch => exact hp.elim
      | outgrown => exact hp.elim
    · rintro e W2 ⟨⟨v, rfl⟩, W3, ⟨hi, hl, hk⟩, rfl⟩
      have hl' : (W3.setCell ⟨Rb, 0, none⟩ (.int .i64 ((Fr.scanF bs).2.2 : Int))).heap[w.heap.size + 1]? = some (.loop (rec .ready none)) := by
        rw [Below.heap_setCell _ _ _ _ (by simp; omega)]; exact hl
      have hend := run_endLoop (P := Tryz.prog) hl' (by rw [hrec]; simp)
      rw [hrec] at hend
      refine ⟨none, _, hend, ?_⟩
      simp only
      rw [setCell_putObj _ _ _ _ _ (by simp; omega)]
      refine hdone w.heap.size _ (Nat.le_refl _) (hIo _ _ _ _ _ _ hi (by omega) hl rfl) ?_
      rw [Below.heap_setCell _ _ _ _ (by simp; omega)]
      exact (World.putObj_heap_other (by omega)).trans hk
end Go.Proofs.YtjkkfjmloleedaaGreat

/- both ledgers: what they hold, what the calls make of it -/
namespace Go.Proofs.YtjkkfjmloleedaaGreat
open Go.RowKit
/-- what a ledger holds, and the reference's. -/
structure LSig where
  nm : ByteArray
  n : Int
  size : Int
  br : Bool
noncomputable def addG (B : List UInt8) (L : LSig) (g : Sig) : Int × LSig × Sig :=
  if L.br = true then (9, L, g) else
  if 65536 < B.length then (3, L, g) else
  if (appG L.nm (Fr.putF B) g).1 = 3 then (8, L, (appG L.nm (Fr.putF B) g).2) else
  if (appG L.nm (Fr.putF B) g).1 ≠ 0 then ((appG L.nm (Fr.putF B) g).1, ⟨L.nm, L.n, L.size, true⟩, (appG L.nm (Fr.putF B) g).2) else
  if (syncG L.nm (appG L.nm (Fr.putF B) g).2).1 ≠ 0 then ((syncG L.nm (appG L.nm (Fr.putF B) g).2).1, ⟨L.nm, L.n, L.size, true⟩, (syncG L.nm (appG L.nm (Fr.putF B) g).2).2) else
  (0, ⟨L.nm, L.n + 1, L.size + ((Fr.putF B).length : Nat), false⟩, (syncG L.nm (appG L.nm (Fr.putF B) g).2).2)
/-- Open's last step. -/
noncomputable def openE (nm : ByteArray) (n sz : Int) (R : List (List UInt8)) (g : Sig) : Int × Option LSig × List (List UInt8) × Sig :=
  if (syncG nm g).1 ≠ 0 then ((syncG nm g).1, none, [], (syncG nm g).2) else (0, some ⟨nm, n, sz, false⟩, R, (syncG nm g).2)
noncomputable def openG (nm : ByteArray) (g : Sig) : Int × Option LSig × List (List UInt8) × Sig :=
  if (readG nm g).1 = 6 then
    if (appG nm [] g).1 ≠ 0 then ((appG nm [] g).1, none, [], (appG nm [] g).2) else openE nm 0 0 [] (appG nm [] g).2
  else if (readG nm g).1 ≠ 0 then ((readG nm g).1, none, [], g) else
  if (Fr.scanF (readG nm g).2).2.2 = 2 then (4, none, [], g) else
  if (Fr.scanF (readG nm g).2).2.2 = 1 then
    if (cutG nm ((Fr.scanF (readG nm g).2).2.1 : Nat) g).1 ≠ 0 then ((cutG nm ((Fr.scanF (readG nm g).2).2.1 : Nat) g).1, none, [], (cutG nm ((Fr.scanF (readG nm g).2).2.1 : Nat) g).2)
    else openE nm ((Fr.scanF (readG nm g).2).1.length : Nat) ((Fr.scanF (readG nm g).2).2.1 : Nat) (Fr.scanF (readG nm g).2).1 (cutG nm ((Fr.scanF (readG nm g).2).2.1 : Nat) g).2
  else openE nm ((Fr.scanF (readG nm g).2).1.length : Nat) ((Fr.scanF (readG nm g).2).2.1 : Nat) (Fr.scanF (readG nm g).2).1 g
theorem scan_rest : ∀ (n : Nat) (b : List UInt8), b.length < n → (Fr.scanF b).2.2 ≤ 2 ∧ (Fr.scanF b).1.length ≤ (Fr.scanF b).2.1 ∧ (Fr.scanF b).2.1 ≤ b.length
  | 0, _, h => absurd h (by omega)
  | n + 1, b, hn => by
    cases h : Fr.headF b with
    | inl k =>
      have e : Fr.scanF b = ([], 0, k) := by rw [Fr.scanF_eq, h]
      rw [e]
      refine ⟨?_, by simp, by simp⟩
      unfold Fr.headF at h
      repeat' split at h
      all_goals first
        | (injection h with h; subst h; simp)
        | cases h
    | inr r =>
      have h' := Fr.headF_rec h
      have e : Fr.scanF b = (r :: (Fr.scanF (b.drop (r.length + 12))).1, r.length + 12 + (Fr.scanF (b.drop (r.length + 12))).2.1, (Fr.scanF (b.drop (r.length + 12))).2.2) := by rw [Fr.scanF_eq, h]
      obtain ⟨i1, i2, i3⟩ := scan_rest n (b.drop (r.length + 12)) (by simp; omega)
      rw [e]
      refine ⟨i1, by simp; omega, ?_⟩
      rw [List.length_drop] at i3
      simp only
      omega
/-- how much there is at most. -/
structure LLim (q : Nat) (L : LSig) : Prop where
  n0 : 0 ≤ L.n
  n1 : L.n ≤ q
  s0 : 0 ≤ L.size
  s1 : L.size ≤ q
theorem LLim.mono {q q' : Nat} {L : LSig} (h : LLim q L) (hq : q ≤ q') : LLim q' L := ⟨h.n0, by have := h.n1; omega, h.s0, by have := h.s1; omega⟩
theorem putF_len (B : List UInt8) : (Fr.putF B).length = B.length + 12 := by simp [Fr.putF, Fr.le4]
theorem addG_lim {q k q' k' : Nat} {B : List UInt8} {L : LSig} {g : Sig} (h : Lim q k g) (hL : LLim q L) (hq : q + B.length + 12 ≤ q') (hk : k + 2 ≤ k') : Lim q' k' (addG B L g).2.2 ∧ LLim q' (addG B L g).2.1 := by
  have hp := putF_len B
  have h1 : Lim q' (k + 1) (appG L.nm (Fr.putF B) g).2 := h.app (by omega) (Nat.le_refl _)
  have h2 : Lim q' k' (syncG L.nm (appG L.nm (Fr.putF B) g).2).2 := h1.sync (Nat.le_refl _) hk
  have n0 := hL.n0
  have n1 := hL.n1
  have s0 := hL.s0
  have s1 := hL.s1
  unfold addG
  split
  · exact ⟨h.mono (by omega) (by omega), hL.mono (by omega)⟩
  split
  · exact ⟨h.mono (by omega) (by omega), hL.mono (by omega)⟩
  split
  · exact ⟨h1.mono (Nat.le_refl _) (by omega), hL.mono (by omega)⟩
  split
  · exact ⟨h1.mono (Nat.le_refl _) (by omega), ⟨n0, by show L.n ≤ _; omega, s0, by show L.size ≤ _; omega⟩⟩
  split
  · exact ⟨h2, ⟨n0, by show L.n ≤ _; omega, s0, by show L.size ≤ _; omega⟩⟩
  · exact ⟨h2, ⟨by show 0 ≤ L.n + 1; omega, by show L.n + 1 ≤ _; omega, by show 0 ≤ L.size + _; omega, by show L.size + _ ≤ _; omega⟩⟩
theorem readG_len {q k : Nat} {s : ByteArray} {g : Sig} (h : Lim q k g) : (readG s g).2.length ≤ q := by
  unfold readG
  split
  · simp
  split
  · simp
  · have := h.get (atZ s g.R).toNat
    have := runD_length_le (g.R.getD (atZ s g.R).toNat f0).2.1 (g.R.getD (atZ s g.R).toNat f0).2.2
    show (runD _ _).length ≤ _
    omega
theorem openE_lim {q k k' : Nat} {nm : ByteArray} {n sz : Int} {R : List (List UInt8)} {g : Sig} (h : Lim q k g) (hk : k + 1 ≤ k') (hn : 0 ≤ n ∧ n ≤ q) (hs : 0 ≤ sz ∧ sz ≤ q) : Lim q k' (openE nm n sz R g).2.2.2 ∧ ∀ L, (openE nm n sz R g).2.1 = some L → LLim q L := by
  have h2 : Lim q k' (syncG nm g).2 := h.sync (Nat.le_refl _) hk
  unfold openE
  split
  · exact ⟨h2, fun L e => by cases e⟩
  · refine ⟨h2, fun L e => ?_⟩
    injection e with e
    subst e
    exact ⟨hn.1, hn.2, hs.1, hs.2⟩
theorem openG_lim {q k q' k' : Nat} {nm : ByteArray} {g : Sig} (h : Lim q k g) (hq : q + 1 ≤ q') (hk : k + 2 ≤ k') : Lim q' k' (openG nm g).2.2.2 ∧ ∀ L, (openG nm g).2.1 = some L → LLim q' L := by
  have hb := readG_len (s := nm) h
  obtain ⟨s1, s2, s3⟩ := scan_rest _ (readG nm g).2 (Nat.lt_succ_self _)
  have h1 : Lim q' (k + 1) (appG nm [] g).2 := h.app (by simp; omega) (Nat.le_refl _)
  have h2 : Lim q' (k + 1) (cutG nm ((Fr.scanF (readG nm g).2).2.1 : Nat) g).2 := h.cut hq (Nat.le_refl _)
  have h0 : Lim q' (k + 1) g := h.mono (by omega) (by omega)
  unfold openG
  split
  · split
    · exact ⟨h1.mono (Nat.le_refl _) (by omega), fun L e => by cases e⟩
    · exact openE_lim h1 (by omega) ⟨by omega, by omega⟩ ⟨by omega, by omega⟩
  split
  · exact ⟨h.mono (by omega) (by omega), fun L e => by cases e⟩
  split
  · exact ⟨h.mono (by omega) (by omega), fun L e => by cases e⟩
  split
  · split
    · exact ⟨h2.mono (Nat.le_refl _) (by omega), fun L e => by cases e⟩
    · exact openE_lim h2 (by omega) ⟨by omega, by omega⟩ ⟨by omega, by omega⟩
  · exact openE_lim h0 (by omega) ⟨by omega, by omega⟩ ⟨by omega, by omega⟩
end Go.Proofs.YtjkkfjmloleedaaGreat

/- disk: calls that are refused -/
set_option linter.unusedSimpArgs false
set_option linter.unusedVariables false
namespace Go.Proofs.YtjkkfjmloleedaaGreat
open Go.RowKit
set_option linter.unusedSectionVars false
variable [Zone]
variable {nm : ByteArray}
set_option maxRecDepth 100000 in
theorem down_outD (d mb : Nat) (st fu : Int) (w : World) (h : DiskRow w d mb st fu true) :
    Calls Tryz.prog 56 #[.pointer (some ⟨d, 0, none⟩)] w fun e w' => e = .returned (.int .i64 10) ∧ w = w' := by
  obtain ⟨h0, h1, h2, h3⟩ := h.cells
  have H := Lib.hid h
  clear h h0 h1 h2
  go_enter Tryz.func56, Tryz.ntmps56
  go_wp2_with fail
  refine (none_any _ _ _ _ _ _ H.out).mono ?_
  rintro e w' ⟨rfl, rfl⟩
  go_wp2_with fail
  go_ret
  exact ⟨rfl, rfl⟩
/-- open tells c, and no file. -/
def NoOpen (d : Nat) (nv : ByteArray) (c : Int) (w : World) : Prop := ∀ w', Below w.heap.size w w' → Calls Tryz.prog 66 #[.pointer (some ⟨d, 0, none⟩), .string nv] w' fun e w2 => e = .returned (.tuple #[.pointer none, .int .i64 c]) ∧ w' = w2
set_option maxRecDepth 100000 in
theorem NoOpen.of_out (d mb : Nat) (st fu : Int) (nv : ByteArray) (w : World) (h : DiskRow w d mb st fu true) : NoOpen d nv 10 w := by
  intro w' hb
  have H := Lib.hid (show DiskRow w' d mb st fu true from (hb.block _ h.lt).trans h)
  clear h hb
  go_enter Tryz.func66, Tryz.ntmps66
  go_wp2_with fail
  refine (down_outD _ _ _ _ _ H.out).mono ?_
  rintro e w' ⟨rfl, rfl⟩
  go_wp2_with fail
  go_ret2
  exact ⟨rfl, rfl⟩
theorem NoOpen.of_none (d mb : Nat) (M : List Ent) (st fu : Int) (w : World) (h : DiskM w st fu false d mb M) (hfo : fileOf nm M = none) : NoOpen d nm 6 w := by
  obtain ⟨c, hm⟩ := h.map
  exact fun w' hb => open_none d mb c M st fu w' ((hb.block _ h.2.2.1.lt).trans h.2.2.1) ((hb.block _ (heap_lt hm)).trans hm) hfo
set_option maxRecDepth 100000 in
theorem Cut_ref (d : Nat) (c : Int) (z : Int) (w : World) (hc : c = 6 ∨ c = 10) (HO : NoOpen d nm c w) :
    Calls Tryz.prog 22 #[.pointer (some ⟨d, 0, none⟩), .string nm, .int .i64 z] w fun e w' => e = .returned (.int .i64 c) ∧ Below w.heap.size w w' := by
  rcases hc with rfl | rfl
  all_goals
    have HO := Lib.hid HO
    go_enter Tryz.func22, Tryz.ntmps22
    go_wp2_with fail
    generalize hX : w.alloc (.cells #[.int .i64 z] 3) = X
    have HB : Hid (Below w.heap.size w X ∧ w.heap.size ≤ X.heap.size) := Lib.hid (by
      rw [← hX]
      first | exact ⟨Below.refl _ _, Nat.le_refl _⟩ | exact ⟨(Below.refl _ _).alloc (Nat.le_refl _) _, by simp⟩ | exact ⟨((Below.refl _ _).alloc (Nat.le_refl _) _).alloc (by simp) _, by simp; omega⟩)
    clear hX
    refine (HO.out _ HB.out.1).mono ?_
    rintro e w' ⟨rfl, rfl⟩
    go_wp2_with fail
    go_ret
    exact ⟨rfl, by first | exact HB.out.1 | exact HB.out.1.alloc HB.out.2 _⟩
set_option maxRecDepth 100000 in
theorem Sync_ref (d : Nat) (c : Int) (w : World) (hc : c = 6 ∨ c = 10) (HO : NoOpen d nm c w) :
    Calls Tryz.prog 24 #[.pointer (some ⟨d, 0, none⟩), .string nm] w fun e w' => e = .returned (.int .i64 c) ∧ Below w.heap.size w w' := by
  rcases hc with rfl | rfl
  all_goals
    have HO := Lib.hid HO
    go_enter Tryz.func24, Tryz.ntmps24
    go_wp2_with fail
    generalize hX : w = X
    have HB : Hid (Below w.heap.size w X ∧ w.heap.size ≤ X.heap.size) := Lib.hid (by
      rw [← hX]
      first | exact ⟨Below.refl _ _, Nat.le_refl _⟩ | exact ⟨(Below.refl _ _).alloc (Nat.le_refl _) _, by simp⟩ | exact ⟨((Below.refl _ _).alloc (Nat.le_refl _) _).alloc (by simp) _, by simp; omega⟩)
    clear hX
    refine (HO.out _ HB.out.1).mono ?_
    rintro e w' ⟨rfl, rfl⟩
    go_wp2_with fail
    go_ret
    exact ⟨rfl, by first | exact HB.out.1 | exact HB.out.1.alloc HB.out.2 _⟩
set_option maxRecDepth 100000 in
theorem Remove_ref (d : Nat) (c : Int) (w : World) (hc : c = 6 ∨ c = 10) (HO : NoOpen d nm c w) :
    Calls Tryz.prog 26 #[.pointer (some ⟨d, 0, none⟩), .string nm] w fun e w' => e = .returned (.int .i64 c) ∧ Below w.heap.size w w' := by
  rcases hc with rfl | rfl
  all_goals
    have HO := Lib.hid HO
    go_enter Tryz.func26, Tryz.ntmps26
    go_wp2_with fail
    generalize hX : ((w.alloc (.cells #[.pointer (some ⟨d, 0, none⟩)] 24)).alloc (.cells #[.string nm] 9)) = X
    have HB : Hid (Below w.heap.size w X ∧ w.heap.size ≤ X.heap.size) := Lib.hid (by
      rw [← hX]
      first | exact ⟨Below.refl _ _, Nat.le_refl _⟩ | exact ⟨(Below.refl _ _).alloc (Nat.le_refl _) _, by simp⟩ | exact ⟨((Below.refl _ _).alloc (Nat.le_refl _) _).alloc (by simp) _, by simp; omega⟩)
    clear hX
    refine (HO.out _ HB.out.1).mono ?_
    rintro e w' ⟨rfl, rfl⟩
    go_wp2_with fail
    go_ret
    exact ⟨rfl, by first | exact HB.out.1 | exact HB.out.1.alloc HB.out.2 _⟩
set_option maxRecDepth 100000 in
theorem Read_ref (d : Nat) (c : Int) (w : World) (hc : c = 6 ∨ c = 10) (HO : NoOpen d nm c w) :
    Calls Tryz.prog 33 #[.pointer (some ⟨d, 0, none⟩), .string nm] w fun e w' => e = .returned (.tuple #[.slice none 0 0, .int .i64 c]) ∧ w = w' := by
  have HO := Lib.hid (HO w (Below.refl _ _))
  rcases hc with rfl | rfl
  all_goals
    go_enter Tryz.func33, Tryz.ntmps33
    go_wp2_with fail
    refine HO.out.mono ?_
    rintro e w' ⟨rfl, rfl⟩
    go_wp2_with fail
    go_ret2
    exact ⟨rfl, rfl⟩
set_option maxRecDepth 100000 in
theorem Append_long_old (base d mb f : Nat) (M : List Ent) (st fu : Int) (S : List UInt8) (D : List Deed) (ao : Option Addr) (n cap : Nat) (B : List UInt8) (w : World) (hbs : base ≤ w.heap.size) (hnf : nameP nm.data.toList = true) (h : DiskM w st fu false d mb M) (hfo : fileOf nm M = some f) (hf : FileOwn w f base S D) (hB : IsBytes w ao n cap B) (hz : ZW w) (hn : 1048576 < n + (allB S D).length) (hDl : D.length ≤ 1000000) (hsm : S.length + unitsD D ≤ 4294967296) :
    Calls Tryz.prog 20 #[.pointer (some ⟨d, 0, none⟩), .string nm, .slice ao n cap] w fun e w' => e = .returned (.int .i64 3) ∧ Below w.heap.size w w' := by
  have HDM := Lib.hid h
  obtain ⟨hfx, hmd, hd, c, hfit, hm⟩ := h
  have HF := Lib.hid hf
  have HDL := Lib.hid hDl
  have h0 := hd.cells.1
  have HNF := Lib.hid hnf
  have HFO := Lib.hid hfo
  have HZ := Lib.hid hz
  have HD := Lib.hid hd
  have HM := Lib.hid hm
  have HB := Lib.hid hB
  clear hfx hmd hd hm hB hfit hnf hfo hf hDl hz
  go_enter Tryz.func20, Tryz.ntmps20
  go_wp2_with fail
  generalize hw1 : ((w.alloc (.cells #[.pointer (some ⟨d, 0, none⟩)] 24)).alloc (.cells #[.string nm] 9)).alloc (.cells #[.slice ao n cap] 36) = w1
  obtain ⟨b0, b1, b2, hB1, hS1⟩ := app_boxes d nm _ w w1 hw1
  clear hw1
  generalize hN : w.heap.size = N at b0 b1 b2 hS1 hbs ⊢
  have HD1 : Hid (DiskRow w1 d mb st fu false) := Lib.hid ((hB1.block _ HD.out.lt).trans HD.out)
  have HM1 : Hid (w1.heap[mb]? = some (.map (ents M) c)) := Lib.hid ((hB1.block _ (heap_lt HM.out)).trans HM.out)
  have h1 := HD1.out.cells.1
  have c0 : w1.cell? ⟨N, 0, none⟩ = some (.pointer (some ⟨d, 0, none⟩)) := cell_of_row _ _ _ _ _ _ b0
  have c1 : w1.cell? ⟨N + 1, 0, none⟩ = some (.string nm) := cell_of_row _ _ _ _ _ _ b1
  have c2 : w1.cell? ⟨N + 1 + 1, 0, none⟩ = some (.slice ao n cap) := cell_of_row _ _ _ _ _ _ b2
  have hlk : (Instr.lookup 43 (.map (some mb)) (.string nm) false).run Tryz.prog (w1.alloc (.cells #[.pointer none] 82)).drew = .ok (.pointer (some ⟨f, 0, none⟩)) (w1.alloc (.cells #[.pointer none] 82)).drew := by
    exact look_log _ mb c M ((Below.heap_alloc w1 (.cells #[.pointer none] 82) mb (heap_lt HM1.out)).trans HM1.out) HFO.out
  have hlk2 : (Instr.lookup 43 (.map (some mb)) (.string nm) false).run Tryz.prog w1.drew = .ok (.pointer (some ⟨f, 0, none⟩)) w1.drew := by
    exact look_log w1.drew mb c M HM1.out HFO.out
  have h1a : (w1.alloc (.cells #[.pointer none] 82)).cell? ⟨d, 0, none⟩ = some (.map (some mb)) := (World.cell?_of_block (w := w1) (Below.heap_alloc w1 _ d HD1.out.lt)).trans h1
  have HB0 := Lib.hid b0
  have HB1 := Lib.hid b1
  have HB2 := Lib.hid b2
  have HBL := Lib.hid hB1
  clear b0 b1 b2 hB1
  refine (down_any d mb st fu w1 HD1.out).mono ?_
  rintro e w' ⟨rfl, rfl⟩
  go_wp2_with fail
  go_region
  all_goals
    go_wp2_with fail
    refine (named_log _ HNF.out).mono ?_
    rintro e w' ⟨rfl, rfl⟩
    go_wp2_with fail
    generalize hX : ((w1.alloc (.cells #[.pointer (some ⟨f, 0, none⟩)] 82)).drew : World) = X
    obtain ⟨x3, xb⟩ := app_old f N hS1 X hX
    have x0 := (xb.block N (by omega)).trans HB0.out
    have x1 := (xb.block (N + 1) (by omega)).trans HB1.out
    have x2 := (xb.block (N + 1 + 1) (by omega)).trans HB2.out
    have hbX : Below w.heap.size w X := HBL.out.trans (xb.mono HBL.out.size)
    have hfX : FileOwn X f base S D := HF.out.later hbX
    have HXX := Lib.hid (And.intro x0 (And.intro x1 (And.intro x2 x3)))
    have HX := Lib.hid (And.intro hbX (And.intro trivial (And.intro trivial hfX)))
    have y2 : X.cell? ⟨N + 1 + 1, 0, none⟩ = some (.slice ao n cap) := cell_of_row _ _ _ _ _ _ x2
    have y3 : X.cell? ⟨N + 3, 0, none⟩ = some (.pointer (some ⟨f, 0, none⟩)) := cell_of_row _ _ _ _ _ _ x3
    clear x0 x1 x2 x3 xb hbX hfX hX hlk hlk2 h1a c0 c1 c2 h1 HB0 HB1 HB2 HD1 HM1 hS1
    obtain ⟨L, hL⟩ : ∃ L, L = (allB S D).length := ⟨_, rfl⟩
    have hLn : 1048576 < n + L := by rw [hL]; exact hn
    have hLb : L ≤ 4294967296 := by rw [hL, allB_run]; have := runD_length_le S D; omega
    have HL := Lib.hid hL
    clear hL
    have hwr : IntKind.i64.wrap (1048576 - (L : Int)) = 1048576 - (L : Int) := IntWalk.i64_in _ (by omega)
    have hcm : 1048576 - (L : Int) < (n : Int) := by omega
    go_region_held3 (fun w' => w'.cell? ⟨N + 1 + 1, 0, none⟩ = some (.slice ao n cap) ∧ w'.cell? ⟨N + 3, 0, none⟩ = some (.pointer (some ⟨f, 0, none⟩)) ∧ Below X.heap.size X w')
      (first
        | (exact ⟨y2, y3, (Below.refl _ _).drew⟩)
        | (exact ⟨(hb2.cell (block_lt_of_cell y2)).trans y2, (hb2.cell (block_lt_of_cell y3)).trans y3, hb2⟩)
        | (go_split_ands; assumption))
      (first
        | (go_at_call 58
           go_split_ands
           refine (bytes_any f S D _ (HX.out.2.2.2.at.later (by assumption))).mono ?_
           rintro e w2 ⟨v, rfl, hown, hb1⟩
           have hb2 : Below X.heap.size X w2 := Below.trans (by assumption) (hb1.mono (Below.size (by assumption)))
           obtain ⟨av, cv, hv, _⟩ := hown.bytes
           rw [← HL.out] at hv
           subst hv))
    all_goals
      go_split_ands
      have hb2 : Below X.heap.size X w2 := by assumption
      have z0 : w2.cell? ⟨N, 0, none⟩ = some (.pointer (some ⟨d, 0, none⟩)) := cell_of_row _ _ _ _ _ _ ((hb2.block _ (heap_lt HXX.out.1)).trans HXX.out.1)
      have HB2 := Lib.hid hb2
      clear hb2
      go_wp2_with fail
      go_ret
      exact ⟨rfl, HX.out.1.trans (HB2.out.mono HX.out.1.size)⟩
set_option maxRecDepth 100000 in
theorem Append_long_new (base d mb : Nat) (M : List Ent) (st fu : Int) (ao : Option Addr) (n cap : Nat) (B : List UInt8) (w : World) (hbs : base ≤ w.heap.size) (hnf : nameP nm.data.toList = true) (h : DiskM w st fu false d mb M) (hfo : fileOf nm M = none) (hml : M.length < 16) (hB : IsBytes w ao n cap B) (hz : ZW w) (hn : 1048576 < n) :
    Calls Tryz.prog 20 #[.pointer (some ⟨d, 0, none⟩), .string nm, .slice ao n cap] w fun e w' => e = .returned (.int .i64 3) ∧ Below w.heap.size w w' := by
  have HDM := Lib.hid h
  obtain ⟨hfx, hmd, hd, c, hfit, hm⟩ := h
  have h0 := hd.cells.1
  have HNF := Lib.hid hnf
  have HML := Lib.hid hml
  have HFO := Lib.hid hfo
  have HZ := Lib.hid hz
  have HD := Lib.hid hd
  have HM := Lib.hid hm
  have HB := Lib.hid hB
  have hml2 : ¬ (16 : Int) ≤ (M.length : Int) := by omega
  clear hfx hmd hd hm hB hfit hnf hfo hz
  go_enter Tryz.func20, Tryz.ntmps20
  go_wp2_with fail
  generalize hw1 : ((w.alloc (.cells #[.pointer (some ⟨d, 0, none⟩)] 24)).alloc (.cells #[.string nm] 9)).alloc (.cells #[.slice ao n cap] 36) = w1
  obtain ⟨b0, b1, b2, hB1, hS1⟩ := app_boxes d nm _ w w1 hw1
  clear hw1
  generalize hN : w.heap.size = N at b0 b1 b2 hS1 hbs ⊢
  have HD1 : Hid (DiskRow w1 d mb st fu false) := Lib.hid ((hB1.block _ HD.out.lt).trans HD.out)
  have HM1 : Hid (w1.heap[mb]? = some (.map (ents M) c)) := Lib.hid ((hB1.block _ (heap_lt HM.out)).trans HM.out)
  have h1 := HD1.out.cells.1
  have c0 : w1.cell? ⟨N, 0, none⟩ = some (.pointer (some ⟨d, 0, none⟩)) := cell_of_row _ _ _ _ _ _ b0
  have c1 : w1.cell? ⟨N + 1, 0, none⟩ = some (.string nm) := cell_of_row _ _ _ _ _ _ b1
  have c2 : w1.cell? ⟨N + 1 + 1, 0, none⟩ = some (.slice ao n cap) := cell_of_row _ _ _ _ _ _ b2
  have hlk : (Instr.lookup 43 (.map (some mb)) (.string nm) false).run Tryz.prog (w1.alloc (.cells #[.pointer none] 82)).drew = .ok (.pointer none) (w1.alloc (.cells #[.pointer none] 82)).drew := by
    exact look_none _ mb c M ((Below.heap_alloc w1 (.cells #[.pointer none] 82) mb (heap_lt HM1.out)).trans HM1.out) HFO.out
  have hlk2 : (Instr.lookup 43 (.map (some mb)) (.string nm) false).run Tryz.prog w1.drew = .ok (.pointer none) w1.drew := by
    exact look_none w1.drew mb c M HM1.out HFO.out
  have hle : ∀ ty, (Builtin.len_ #[43] ty #[.map (some mb)]).run Tryz.prog (w1.alloc (.cells #[.pointer none] 82)).drew = .ok (.int .i64 (M.length : Nat)) (w1.alloc (.cells #[.pointer none] 82)).drew :=
    fun ty => len_ents _ mb c M ty ((Below.heap_alloc w1 (.cells #[.pointer none] 82) mb (heap_lt HM1.out)).trans HM1.out)
  have h1a : (w1.alloc (.cells #[.pointer none] 82)).cell? ⟨d, 0, none⟩ = some (.map (some mb)) := (World.cell?_of_block (w := w1) (Below.heap_alloc w1 _ d HD1.out.lt)).trans h1
  have HB0 := Lib.hid b0
  have HB1 := Lib.hid b1
  have HB2 := Lib.hid b2
  have HBL := Lib.hid hB1
  clear b0 b1 b2 hB1
  refine (down_any d mb st fu w1 HD1.out).mono ?_
  rintro e w' ⟨rfl, rfl⟩
  go_wp2_with fail
  go_region
  all_goals
    go_wp2_with fail
    refine (named_log _ HNF.out).mono ?_
    rintro e w' ⟨rfl, rfl⟩
    go_wp2_with fail
    generalize hX : (((w1.alloc (.cells #[.pointer (some ⟨N + 3 + 1, 0, none⟩)] 82)).alloc (.cells #[.slice none 0 0, .slice none 0 0] 92)).drew : World) = X
    obtain ⟨x0, x1, x2, x3, x4, xb⟩ := app_new N hS1 w1 X d nm _ HB0.out HB1.out HB2.out rfl hX
    have hbX : Below w.heap.size w X := HBL.out.trans (xb.mono HBL.out.size)
    have hfX : FileOwn X (N + 3 + 1) base [] [] := ⟨⟨none, 0, 0, .slice none 0 0, x4, ⟨IsBytes.nil X, ZS.nil⟩, OwnD.nil X base⟩, trivial, by simp⟩
    have HX4 : Hid (FileRow X (N + 3 + 1) (.slice none 0 0) (.slice none 0 0)) := Lib.hid x4
    have HXX := Lib.hid (And.intro x0 (And.intro x1 (And.intro x2 x3)))
    have HX := Lib.hid (And.intro hbX (And.intro trivial (And.intro trivial hfX)))
    have y2 : X.cell? ⟨N + 1 + 1, 0, none⟩ = some (.slice ao n cap) := cell_of_row _ _ _ _ _ _ x2
    have y3 : X.cell? ⟨N + 3, 0, none⟩ = some (.pointer (some ⟨N + 3 + 1, 0, none⟩)) := cell_of_row _ _ _ _ _ _ x3
    clear x0 x1 x2 x3 x4 xb hbX hfX hX hlk hlk2 hle h1a c0 c1 c2 h1 HB0 HB1 HB2 HD1 HM1 hS1
    obtain ⟨L, hL⟩ : ∃ L, L = (allB [] []).length := ⟨_, rfl⟩
    have hLn : L = 0 := by rw [hL]; simp [allB, afterZ, unitsD]
    have hnn : 1048576 < n := hn
    have HL := Lib.hid hL
    clear hL
    have hwr : IntKind.i64.wrap (1048576 - (L : Int)) = 1048576 - (L : Int) := IntWalk.i64_in _ (by omega)
    have hcm : 1048576 - (L : Int) < (n : Int) := by omega
    clear hLn
    go_region_held3 (fun w' => w'.cell? ⟨N + 1 + 1, 0, none⟩ = some (.slice ao n cap) ∧ w'.cell? ⟨N + 3, 0, none⟩ = some (.pointer (some ⟨N + 3 + 1, 0, none⟩)) ∧ Below X.heap.size X w')
      (first
        | (exact ⟨y2, y3, (Below.refl _ _).drew⟩)
        | (exact ⟨(hb2.cell (block_lt_of_cell y2)).trans y2, (hb2.cell (block_lt_of_cell y3)).trans y3, hb2⟩)
        | (go_split_ands; assumption))
      (first
        | (go_at_call 58
           go_split_ands
           refine (bytes_any (N + 3 + 1) [] [] _ (HX.out.2.2.2.at.later (by assumption))).mono ?_
           rintro e w2 ⟨v, rfl, hown, hb1⟩
           have hb2 : Below X.heap.size X w2 := Below.trans (by assumption) (hb1.mono (Below.size (by assumption)))
           obtain ⟨av, cv, hv, _⟩ := hown.bytes
           rw [← HL.out] at hv
           subst hv))
    all_goals
      go_split_ands
      have hb2 : Below X.heap.size X w2 := by assumption
      have z0 : w2.cell? ⟨N, 0, none⟩ = some (.pointer (some ⟨d, 0, none⟩)) := cell_of_row _ _ _ _ _ _ ((hb2.block _ (heap_lt HXX.out.1)).trans HXX.out.1)
      have HB2 := Lib.hid hb2
      clear hb2
      go_wp2_with fail
      go_ret
      exact ⟨rfl, HX.out.1.trans (HB2.out.mono HX.out.1.size)⟩
set_option maxRecDepth 100000 in
theorem Append_full (base d mb : Nat) (M : List Ent) (st fu : Int) (ao : Option Addr) (n cap : Nat) (B : List UInt8) (w : World) (hbs : base ≤ w.heap.size) (hnf : nameP nm.data.toList = true) (h : DiskM w st fu false d mb M) (hfo : fileOf nm M = none) (hml : 16 ≤ M.length) (hB : IsBytes w ao n cap B) (hz : ZW w) :
    Calls Tryz.prog 20 #[.pointer (some ⟨d, 0, none⟩), .string nm, .slice ao n cap] w fun e w' => e = .returned (.int .i64 8) ∧ Below w.heap.size w w' := by
  have HDM := Lib.hid h
  obtain ⟨hfx, hmd, hd, c, hfit, hm⟩ := h
  have h0 := hd.cells.1
  have HNF := Lib.hid hnf
  have HML := Lib.hid hml
  have HFO := Lib.hid hfo
  have HZ := Lib.hid hz
  have HD := Lib.hid hd
  have HM := Lib.hid hm
  have HB := Lib.hid hB
  have hml2 : (16 : Int) ≤ (M.length : Int) := by omega
  clear hfx hmd hd hm hB hfit hnf hfo hz
  go_enter Tryz.func20, Tryz.ntmps20
  go_wp2_with fail
  generalize hw1 : ((w.alloc (.cells #[.pointer (some ⟨d, 0, none⟩)] 24)).alloc (.cells #[.string nm] 9)).alloc (.cells #[.slice ao n cap] 36) = w1
  obtain ⟨b0, b1, b2, hB1, hS1⟩ := app_boxes d nm _ w w1 hw1
  clear hw1
  have HB9 := Lib.hid hB1
  obtain ⟨N, hN⟩ : ∃ N, N = w.heap.size := ⟨_, rfl⟩
  rw [← hN] at b0 b1 b2 hS1 hbs ⊢
  have HN := Lib.hid (And.intro hN (show w.heap.size ≤ w1.heap.size by omega))
  clear hN
  have HD1 : Hid (DiskRow w1 d mb st fu false) := Lib.hid ((hB1.block _ HD.out.lt).trans HD.out)
  have HM1 : Hid (w1.heap[mb]? = some (.map (ents M) c)) := Lib.hid ((hB1.block _ (heap_lt HM.out)).trans HM.out)
  have h1 := HD1.out.cells.1
  have c0 : w1.cell? ⟨N, 0, none⟩ = some (.pointer (some ⟨d, 0, none⟩)) := cell_of_row _ _ _ _ _ _ b0
  have c1 : w1.cell? ⟨N + 1, 0, none⟩ = some (.string nm) := cell_of_row _ _ _ _ _ _ b1
  have c2 : w1.cell? ⟨N + 1 + 1, 0, none⟩ = some (.slice ao n cap) := cell_of_row _ _ _ _ _ _ b2
  have hlk : (Instr.lookup 43 (.map (some mb)) (.string nm) false).run Tryz.prog (w1.alloc (.cells #[.pointer none] 82)).drew = .ok (.pointer none) (w1.alloc (.cells #[.pointer none] 82)).drew := by
    exact look_none _ mb c M ((Below.heap_alloc w1 (.cells #[.pointer none] 82) mb (heap_lt HM1.out)).trans HM1.out) HFO.out
  have hlk2 : (Instr.lookup 43 (.map (some mb)) (.string nm) false).run Tryz.prog w1.drew = .ok (.pointer none) w1.drew := by
    exact look_none w1.drew mb c M HM1.out HFO.out
  have hle : ∀ ty, (Builtin.len_ #[43] ty #[.map (some mb)]).run Tryz.prog (w1.alloc (.cells #[.pointer none] 82)).drew = .ok (.int .i64 (M.length : Nat)) (w1.alloc (.cells #[.pointer none] 82)).drew :=
    fun ty => len_ents _ mb c M ty ((Below.heap_alloc w1 (.cells #[.pointer none] 82) mb (heap_lt HM1.out)).trans HM1.out)
  have h1a : (w1.alloc (.cells #[.pointer none] 82)).cell? ⟨d, 0, none⟩ = some (.map (some mb)) := (World.cell?_of_block (w := w1) (Below.heap_alloc w1 _ d HD1.out.lt)).trans h1
  have HB0 := Lib.hid b0
  have HB1 := Lib.hid b1
  have HB2 := Lib.hid b2
  have HBL := Lib.hid hB1
  clear b0 b1 b2 hB1
  refine (down_any d mb st fu w1 HD1.out).mono ?_
  rintro e w' ⟨rfl, rfl⟩
  go_wp2_with fail
  go_region
  all_goals
    go_wp2_with fail
    refine (named_log _ HNF.out).mono ?_
    rintro e w' ⟨rfl, rfl⟩
    go_wp2_with fail
    go_ret
    exact ⟨rfl, HN.out.1 ▸ (HB9.out.alloc HN.out.2 _).drew⟩
set_option maxRecDepth 100000 in
theorem Append_out (d mb : Nat) (st fu : Int) (ao : Option Addr) (n cap : Nat) (w : World) (h : DiskRow w d mb st fu true) :
    Calls Tryz.prog 20 #[.pointer (some ⟨d, 0, none⟩), .string nm, .slice ao n cap] w fun e w' => e = .returned (.int .i64 10) ∧ Below w.heap.size w w' := by
  have HD := Lib.hid h
  go_enter Tryz.func20, Tryz.ntmps20
  go_wp2_with fail
  generalize hw1 : ((w.alloc (.cells #[.pointer (some ⟨d, 0, none⟩)] 24)).alloc (.cells #[.string nm] 9)).alloc (.cells #[.slice ao n cap] 36) = w1
  obtain ⟨b0, b1, b2, hB1, hS1⟩ := app_boxes d nm _ w w1 hw1
  clear hw1
  obtain ⟨N, hN⟩ : ∃ N, N = w.heap.size := ⟨_, rfl⟩
  rw [← hN] at b0 b1 b2 hS1 ⊢
  have HN := Lib.hid hN
  have HB := Lib.hid hB1
  have HD1 : Hid (DiskRow w1 d mb st fu true) := Lib.hid ((hB1.block _ HD.out.lt).trans HD.out)
  have c0 : w1.cell? ⟨N, 0, none⟩ = some (.pointer (some ⟨d, 0, none⟩)) := cell_of_row _ _ _ _ _ _ b0
  clear b0 b1 b2 hB1 hN h
  refine (down_outD d mb st fu w1 HD1.out).mono ?_
  rintro e w' ⟨rfl, rfl⟩
  go_wp2_with fail
  go_ret
  exact ⟨rfl, HN.out ▸ HB.out⟩
end Go.Proofs.YtjkkfjmloleedaaGreat
