/- a range over frame.frames: the law for the caller -/
import Derived.RangeFuncWrites
import Derived.Test.YtgbpgmbnihfkkaaFrames
import Derived.Test.YtgbpgmbnihfkkaaPFrame4
namespace Go.Proofs.Ytgbpgmbnihfkkaa
open Go.RowKit Go.Shelf
/-- how the body of a round is left. -/
def framesPost (B : Nat) (I : List (List UInt8) → Nat → World → Prop) (pre : List (List UInt8)) (k : Nat) (W : World) : Exit → Act → World → Prop
  | .normal, _, W' => KeepsFrom B W W' ∧ I pre k W'
  | .ret, _, _ => False
  | .exit _, _, _ => False
  | .goto _, _, _ => False
  | .panic _, _, _ => False
  | .outgrown, _, _ => False
theorem setCell_putObj (w : World) (a : Addr) (v : Value) (l : Nat) (o : Obj) (h : ¬ a.block = l) : (w.setCell a v).putObj l o = (w.putObj l o).setCell a v := by
  unfold World.setCell World.putObj
  simp only
  congr 1
  apply Array.ext_getElem?
  intro i
  simp only [Array.getElem?_modify, Array.getElem?_setIfInBounds, Array.size_modify]
  by_cases h1 : l = i
  · subst h1; simp [h]
  · simp [h1]
set_option maxHeartbeats 1000000 in
theorem wpIn_range_frames (m : Nat) {g : Operand} {ps : Array Tmp} {assign body : Code} {Q : Exit → Act → World → Prop} {a : Act} {w : World} (Bb Br Rb : Nat) (ao : Option Addr) (n cap : Nat) (bs : List UInt8)
    (hg : a.eval g = .func (.func 52) #[] #[.pointer (some ⟨Bb, 0, none⟩), .pointer (some ⟨Br, 0, none⟩)]) (hps : ps.size = 2) (hne : ¬ Br = Rb)
    (I : List (List UInt8) → Nat → World → Prop)
    (hIb : ∀ pre k A B, I pre k A → Below A.heap.size A B → I pre k B)
    (hIo : ∀ pre k A r o o', I pre k A → w.heap.size ≤ r → A.heap[r]? = some o → o.isCells = false → I pre k (A.putObj r o'))
    (hIm : ∀ pre k A, I pre k A → FramesMem ao n cap bs Bb Br Rb A) (hRb : Rb < w.heap.size)
    (h0 : I [] 0 w) (a₁ : Value → Value → Act)
    (hassign : ∀ (l : Nat) (x y : Value) (W : World) (K : Act → World → Prop), K (a₁ x y) W →
      assign.wpIn (Fence.wide.inRound l) m Try.prog (Exit.then K (fun _ _ _ => False)) { tmps := (ps.zip #[x, y]).foldl (fun t (p, v) => t.setIfInBounds p v) a.tmps, defers := [] } W)
    (hbody : ∀ (l : Nat) (pre : List (List UInt8)) (k : Nat) (r : List UInt8) (ao' : Option Addr) (n' cap' : Nat) (W : World), I pre k W → IsBytes W ao' n' cap' r → ao'.map (·.block) = ao.map (·.block) → k + r.length + 12 ≤ n → r.length ≤ 65536 → w.heap.size < W.heap.size →
      body.wpIn (Fence.wide.inRound l) m Try.prog (framesPost w.heap.size I (pre ++ [r]) (k + (r.length + 12)) W) (a₁ (.slice ao' n' cap') (.int .i64 ((k + (r.length + 12) : Nat) : Int))) W)
    (hdone : ∀ (D : Nat) (W : World), w.heap.size ≤ D → I (Fr.scanF bs).1 (Fr.scanF bs).2.1 W → (W.setCell ⟨Rb, 0, none⟩ (.int .i64 ((Fr.scanF bs).2.2 : Int))).heap[D]? = some (.deferred (some [])) →
      Q .normal { a with defers := { target := .collected D, args := #[] } :: a.defers } (W.setCell ⟨Rb, 0, none⟩ (.int .i64 ((Fr.scanF bs).2.2 : Int)))) :
    (Code.rangeFunc g ps assign body).wpIn Fence.wide (m + 2) Try.prog Q a w := by
  refine wpIn_rangeFunc ?_
  intro fn hfn
  have eround : Fence.wide.round = none := rfl
  rw [eround]
  obtain ⟨rec, hrec⟩ : ∃ rec : LoopState → Option Code → Loop, rec = fun st pe => { state := st, pending := pe, fn, tmps := a.tmps, params := ps, assign, body, defers := w.heap.size } := ⟨_, rfl⟩
  obtain ⟨W1, hW1⟩ : ∃ W1, (w.alloc (.deferred (some []))).alloc (.loop (rec .ready none)) = W1 := ⟨_, rfl⟩
  have hb1 : Below w.heap.size w W1 := by rw [← hW1]; exact ((Below.refl _ w).alloc (Nat.le_refl _) _).alloc (by simp) _
  have hL1 : W1.heap[w.heap.size + 1]? = some (.loop (rec .ready none)) := by
    rw [← hW1]; have := World.alloc_heap_new (w.alloc (.deferred (some []))) (.loop (rec .ready none)); rwa [World.size_alloc] at this
  have hK1 : W1.heap[w.heap.size]? = some (.deferred (some [])) := by
    rw [← hW1]; exact (Below.heap_alloc _ _ _ (by simp)).trans (World.alloc_heap_new w _)
  have hI1 : I [] 0 W1 := hIb _ _ _ _ h0 hb1
  refine ⟨w.heap.size + 1, [{ target := .collected w.heap.size, args := #[] }], W1, { target := .fn (.func 52) #[.pointer (some ⟨Bb, 0, none⟩), .pointer (some ⟨Br, 0, none⟩)], args := #[.func (.yield (w.heap.size + 1)) #[] #[]] }, W1, 52,
    #[.func (.yield (w.heap.size + 1)) #[] #[], .pointer (some ⟨Bb, 0, none⟩), .pointer (some ⟨Br, 0, none⟩)], W1, ?_, ?_, ?_, ?_, fun h => (by simp [Fence.wide] at h), ?_⟩
  · rw [← hW1, hrec]; exact run_enterLoop_outer _ _ _ _ _
  · simp only [resolve, hg]
    simp [go_sem]
  · intro f' hf'; trivial
  · simp [invoke, go_sem]
  · refine (frames1_in (m + 2 - 1) (w.heap.size + 1) Bb Br Rb ao n cap bs
      (fun pre k W => I pre k W ∧ W.heap[w.heap.size + 1]? = some (.loop (rec .ready none)) ∧ W.heap[w.heap.size]? = some (.deferred (some [])))
      (fun pre k A B hs hb => ⟨hIb _ _ _ _ hs.1 hb, (hb.block _ (Array.getElem?_eq_some_iff.1 hs.2.1).1).trans hs.2.1, (hb.block _ (Array.getElem?_eq_some_iff.1 hs.2.2).1).trans hs.2.2⟩)
      (fun pre k A hs => hIm _ _ _ hs.1) ?_ hne W1 ⟨hI1, hL1, hK1⟩).mono ?_
    · rintro pre k r ao' n' cap' W ⟨hi, hl, hk⟩ hbr hao hkn hr
      have hlt : w.heap.size + 1 < W.heap.size := (Array.getElem?_eq_some_iff.1 hl).1
      have hy := run_yield (P := Try.prog) (args := #[.slice ao' n' cap', .int .i64 ((k + (r.length + 12) : Nat) : Int)]) hl (by rw [hrec]; exact hps.symm)
      rw [hrec] at hy
      refine ⟨fn, _, assign, body, hy, roundIn_of_wpIn hfn ?_⟩
      rw [show m + 2 - 1 - 1 = m by omega]
      refine hassign _ _ _ W _ ⟨_, run_beginRound hl (by rw [hrec]), ?_⟩
      obtain ⟨W2, hW2⟩ : ∃ W2, W2 = W.putObj (w.heap.size + 1) (.loop { rec .ready none with state := .busy }) := ⟨_, rfl⟩
      have hl2 : W2.heap[w.heap.size + 1]? = some (.loop { rec .ready none with state := .busy }) := by rw [hW2]; exact World.putObj_heap_same hlt
      have hk2 : W2.heap[w.heap.size]? = some (.deferred (some [])) := by rw [hW2]; exact (World.putObj_heap_other (by omega)).trans hk
      have hi2 : I pre k W2 := by rw [hW2]; exact hIo _ _ _ _ _ _ hi (by omega) hl rfl
      have hbr2 : IsBytes W2 ao' n' cap' r := by
        refine ⟨hbr.1, hbr.2.1, hbr.2.2.1, fun hl' => ?_, hbr.2.2.2.2⟩
        obtain ⟨b, off, e, hc⟩ := hbr.2.2.2.1 hl'
        refine ⟨b, off, e, fun i hi' => ?_⟩
        have hci := hc i hi'
        rw [hW2, ← hci]
        have hbl : ¬ b = w.heap.size + 1 := by
          intro e'
          have h0 := hc 0 (by cases r; exact absurd rfl hl'; simp)
          rw [e'] at h0
          simp [World.cell?, hl] at h0
        exact World.cell?_of_block (by exact World.putObj_heap_other hbl)
      rw [← hW2]
      have hsz : w.heap.size < W2.heap.size := by rw [hW2]; simp; omega
      refine wpIn_mono (hbody _ pre k r ao' n' cap' W2 hi2 hbr2 hao hkn hr hsz) ?_
      rintro e a3 W3 hp
      cases e with
      | normal =>
        obtain ⟨hk3, hi3⟩ := hp
        have hl3 := hk3.same _ _ (by omega) hl2 rfl
        have hd3 := hk3.same _ _ (Nat.le_refl _) hk2 rfl
        have hend := run_endRound (P := Try.prog) none hl3
        rw [hrec] at hend
        refine ⟨_, _, hend, rfl, ?_⟩
        refine ⟨hIo _ _ _ _ _ _ hi3 (by omega) hl3 rfl, ?_, (World.putObj_heap_other (by omega)).trans hd3⟩
        rw [hrec]
        exact World.putObj_heap_same (Array.getElem?_eq_some_iff.1 hl3).1
      | ret => exact hp.elim
      | exit id => exact hp.elim
      | goto t => exact hp.elim
      | panic ch => exact hp.elim
      | outgrown => exact hp.elim
    · rintro e W2 ⟨⟨v, rfl⟩, W3, ⟨hi, hl, hk⟩, rfl⟩
      have hl' : (W3.setCell ⟨Rb, 0, none⟩ (.int .i64 ((Fr.scanF bs).2.2 : Int))).heap[w.heap.size + 1]? = some (.loop (rec .ready none)) := by
        rw [Below.heap_setCell _ _ _ _ (by simp; omega)]; exact hl
      have hend := run_endLoop (P := Try.prog) hl' (by rw [hrec]; simp)
      rw [hrec] at hend
      refine ⟨none, _, hend, ?_⟩
      simp only
      rw [setCell_putObj _ _ _ _ _ (by simp; omega)]
      refine hdone w.heap.size _ (Nat.le_refl _) (hIo _ _ _ _ _ _ hi (by omega) hl rfl) ?_
      rw [Below.heap_setCell _ _ _ _ (by simp; omega)]
      exact (World.putObj_heap_other (by omega)).trans hk
end Go.Proofs.Ytgbpgmbnihfkkaa

/- both ledgers: what they hold, what the calls make of it -/
namespace Go.Proofs.Ytgbpgmbnihfkkaa
open Go.RowKit
/-- what a ledger holds, and the reference's. -/
structure LSig where
  nm : ByteArray
  n : Int
  size : Int
  br : Bool
noncomputable def addG (B : List UInt8) (L : LSig) (g : Sig) : Int × LSig × Sig :=
  if L.br = true then (9, L, g) else
  if 65536 < B.length then (3, L, g) else
  if (appG L.nm (Fr.putF B) g).1 = 3 then (8, L, (appG L.nm (Fr.putF B) g).2) else
  if (appG L.nm (Fr.putF B) g).1 ≠ 0 then ((appG L.nm (Fr.putF B) g).1, ⟨L.nm, L.n, L.size, true⟩, (appG L.nm (Fr.putF B) g).2) else
  if (syncG L.nm (appG L.nm (Fr.putF B) g).2).1 ≠ 0 then ((syncG L.nm (appG L.nm (Fr.putF B) g).2).1, ⟨L.nm, L.n, L.size, true⟩, (syncG L.nm (appG L.nm (Fr.putF B) g).2).2) else
  (0, ⟨L.nm, L.n + 1, L.size + ((Fr.putF B).length : Nat), false⟩, (syncG L.nm (appG L.nm (Fr.putF B) g).2).2)
/-- Open's last step. -/
noncomputable def openE (nm : ByteArray) (n sz : Int) (R : List (List UInt8)) (g : Sig) : Int × Option LSig × List (List UInt8) × Sig :=
  if (syncG nm g).1 ≠ 0 then ((syncG nm g).1, none, [], (syncG nm g).2) else (0, some ⟨nm, n, sz, false⟩, R, (syncG nm g).2)
noncomputable def openG (nm : ByteArray) (g : Sig) : Int × Option LSig × List (List UInt8) × Sig :=
  if (readG nm g).1 = 6 then
    if (appG nm [] g).1 ≠ 0 then ((appG nm [] g).1, none, [], (appG nm [] g).2) else openE nm 0 0 [] (appG nm [] g).2
  else if (readG nm g).1 ≠ 0 then ((readG nm g).1, none, [], g) else
  if (Fr.scanF (readG nm g).2).2.2 = 2 then (4, none, [], g) else
  if (Fr.scanF (readG nm g).2).2.2 = 1 then
    if (cutG nm ((Fr.scanF (readG nm g).2).2.1 : Nat) g).1 ≠ 0 then ((cutG nm ((Fr.scanF (readG nm g).2).2.1 : Nat) g).1, none, [], (cutG nm ((Fr.scanF (readG nm g).2).2.1 : Nat) g).2)
    else openE nm ((Fr.scanF (readG nm g).2).1.length : Nat) ((Fr.scanF (readG nm g).2).2.1 : Nat) (Fr.scanF (readG nm g).2).1 (cutG nm ((Fr.scanF (readG nm g).2).2.1 : Nat) g).2
  else openE nm ((Fr.scanF (readG nm g).2).1.length : Nat) ((Fr.scanF (readG nm g).2).2.1 : Nat) (Fr.scanF (readG nm g).2).1 g
theorem scan_rest : ∀ (n : Nat) (b : List UInt8), b.length < n → (Fr.scanF b).2.2 ≤ 2 ∧ (Fr.scanF b).1.length ≤ (Fr.scanF b).2.1 ∧ (Fr.scanF b).2.1 ≤ b.length
  | 0, _, h => absurd h (by omega)
  | n + 1, b, hn => by
    cases h : Fr.headF b with
    | inl k =>
      have e : Fr.scanF b = ([], 0, k) := by rw [Fr.scanF_eq, h]
      rw [e]
      refine ⟨?_, by simp, by simp⟩
      unfold Fr.headF at h
      repeat' split at h
      all_goals first
        | (injection h with h; subst h; simp)
        | cases h
    | inr r =>
      have h' := Fr.headF_rec h
      have e : Fr.scanF b = (r :: (Fr.scanF (b.drop (r.length + 12))).1, r.length + 12 + (Fr.scanF (b.drop (r.length + 12))).2.1, (Fr.scanF (b.drop (r.length + 12))).2.2) := by rw [Fr.scanF_eq, h]
      obtain ⟨i1, i2, i3⟩ := scan_rest n (b.drop (r.length + 12)) (by simp; omega)
      rw [e]
      refine ⟨i1, by simp; omega, ?_⟩
      rw [List.length_drop] at i3
      simp only
      omega
/-- how much there is at most. -/
structure LLim (q : Nat) (L : LSig) : Prop where
  n0 : 0 ≤ L.n
  n1 : L.n ≤ q
  s0 : 0 ≤ L.size
  s1 : L.size ≤ q
theorem LLim.mono {q q' : Nat} {L : LSig} (h : LLim q L) (hq : q ≤ q') : LLim q' L := ⟨h.n0, by have := h.n1; omega, h.s0, by have := h.s1; omega⟩
theorem putF_len (B : List UInt8) : (Fr.putF B).length = B.length + 12 := by simp [Fr.putF, Fr.le4]
theorem addG_lim {q k q' k' : Nat} {B : List UInt8} {L : LSig} {g : Sig} (h : Lim q k g) (hL : LLim q L) (hq : q + B.length + 12 ≤ q') (hk : k + 2 ≤ k') : Lim q' k' (addG B L g).2.2 ∧ LLim q' (addG B L g).2.1 := by
  have hp := putF_len B
  have h1 : Lim q' (k + 1) (appG L.nm (Fr.putF B) g).2 := h.app (by omega) (Nat.le_refl _)
  have h2 : Lim q' k' (syncG L.nm (appG L.nm (Fr.putF B) g).2).2 := h1.sync (Nat.le_refl _) hk
  have n0 := hL.n0
  have n1 := hL.n1
  have s0 := hL.s0
  have s1 := hL.s1
  unfold addG
  split
  · exact ⟨h.mono (by omega) (by omega), hL.mono (by omega)⟩
  split
  · exact ⟨h.mono (by omega) (by omega), hL.mono (by omega)⟩
  split
  · exact ⟨h1.mono (Nat.le_refl _) (by omega), hL.mono (by omega)⟩
  split
  · exact ⟨h1.mono (Nat.le_refl _) (by omega), ⟨n0, by show L.n ≤ _; omega, s0, by show L.size ≤ _; omega⟩⟩
  split
  · exact ⟨h2, ⟨n0, by show L.n ≤ _; omega, s0, by show L.size ≤ _; omega⟩⟩
  · exact ⟨h2, ⟨by show 0 ≤ L.n + 1; omega, by show L.n + 1 ≤ _; omega, by show 0 ≤ L.size + _; omega, by show L.size + _ ≤ _; omega⟩⟩
theorem readG_len {q k : Nat} {s : ByteArray} {g : Sig} (h : Lim q k g) : (readG s g).2.length ≤ q := by
  unfold readG
  split
  · simp
  split
  · simp
  · have := h.get (atZ s g.R).toNat
    have := runD_length_le (g.R.getD (atZ s g.R).toNat f0).2.1 (g.R.getD (atZ s g.R).toNat f0).2.2
    show (runD _ _).length ≤ _
    omega
theorem openE_lim {q k k' : Nat} {nm : ByteArray} {n sz : Int} {R : List (List UInt8)} {g : Sig} (h : Lim q k g) (hk : k + 1 ≤ k') (hn : 0 ≤ n ∧ n ≤ q) (hs : 0 ≤ sz ∧ sz ≤ q) : Lim q k' (openE nm n sz R g).2.2.2 ∧ ∀ L, (openE nm n sz R g).2.1 = some L → LLim q L := by
  have h2 : Lim q k' (syncG nm g).2 := h.sync (Nat.le_refl _) hk
  unfold openE
  split
  · exact ⟨h2, fun L e => by cases e⟩
  · refine ⟨h2, fun L e => ?_⟩
    injection e with e
    subst e
    exact ⟨hn.1, hn.2, hs.1, hs.2⟩
theorem openG_lim {q k q' k' : Nat} {nm : ByteArray} {g : Sig} (h : Lim q k g) (hq : q + 1 ≤ q') (hk : k + 2 ≤ k') : Lim q' k' (openG nm g).2.2.2 ∧ ∀ L, (openG nm g).2.1 = some L → LLim q' L := by
  have hb := readG_len (s := nm) h
  obtain ⟨s1, s2, s3⟩ := scan_rest _ (readG nm g).2 (Nat.lt_succ_self _)
  have h1 : Lim q' (k + 1) (appG nm [] g).2 := h.app (by simp; omega) (Nat.le_refl _)
  have h2 : Lim q' (k + 1) (cutG nm ((Fr.scanF (readG nm g).2).2.1 : Nat) g).2 := h.cut hq (Nat.le_refl _)
  have h0 : Lim q' (k + 1) g := h.mono (by omega) (by omega)
  unfold openG
  split
  · split
    · exact ⟨h1.mono (Nat.le_refl _) (by omega), fun L e => by cases e⟩
    · exact openE_lim h1 (by omega) ⟨by omega, by omega⟩ ⟨by omega, by omega⟩
  split
  · exact ⟨h.mono (by omega) (by omega), fun L e => by cases e⟩
  split
  · exact ⟨h.mono (by omega) (by omega), fun L e => by cases e⟩
  split
  · split
    · exact ⟨h2.mono (Nat.le_refl _) (by omega), fun L e => by cases e⟩
    · exact openE_lim h2 (by omega) ⟨by omega, by omega⟩ ⟨by omega, by omega⟩
  · exact openE_lim h0 (by omega) ⟨by omega, by omega⟩ ⟨by omega, by omega⟩
end Go.Proofs.Ytgbpgmbnihfkkaa
