/- index.Build (printed by mkbuild14.py) -/
import Derived.Test.YtjiiikeniocmfaaGreatMIClone
import Derived.Test.YtjiiikeniocmfaaGreatMSlabW
import Derived.Test.YtjiiikeniocmfaaGreatMQConcat
import Derived.Test.YtjiiikeniocmfaaGreatMQRCheck
set_option linter.unusedSimpArgs false
set_option linter.unusedVariables false
namespace Go.Proofs.YtjiiikeniocmfaaGreat
open Go.RowKit Go.Geo
attribute [local go_sem] Oper.semAt_some
def FO (W : World) (n : Nat) (v : Value) (w : World) : Prop := ∃ b, v = .slice (some ⟨b, 0, none⟩) n n ∧ W.heap.size ≤ b ∧ OnceRow w b n
def FS (W : World) (n : Nat) (v : Value) (w : World) : Prop := ∃ b, v = .slice (some ⟨b, 0, none⟩) n n ∧ W.heap.size ≤ b ∧ PtrRow w b n
def TwoNew (W : World) (o s n : Nat) (w : World) : Prop := W.heap.size ≤ o ∧ W.heap.size ≤ s ∧ OnceRow w o n ∧ PtrRow w s n
def FA (W : World) (n : Nat) (v : Value) (w : World) : Prop := ∃ o s, v = .agg #[.bool true, .slice none 0 0, .pointer none, .slice (some ⟨o, 0, none⟩) n n, .slice (some ⟨s, 0, none⟩) n n] ∧ TwoNew W o s n w
def IdxNew (W : World) (g o s n : Nat) (w : World) : Prop := TwoNew W o s n w ∧ o < g ∧ s < g ∧ w.heap[g]? = some (.cells #[.bool true, .slice none 0 0, .pointer none, .slice (some ⟨o, 0, none⟩) n n, .slice (some ⟨s, 0, none⟩) n n] 57 (0, 0))
def FG (W : World) (n : Nat) (v : Value) (w : World) : Prop := ∃ g o s, v = .pointer (some ⟨g, 0, none⟩) ∧ IdxNew W g o s n w
theorem TwoNew.later {W w w' : World} {o s n : Nat} (h : TwoNew W o s n w) (hb : Below w.heap.size w w') : TwoNew W o s n w' := ⟨h.1, h.2.1, h.2.2.1.later hb, h.2.2.2.later hb⟩
theorem IdxNew.later {W w w' : World} {g o s n : Nat} (h : IdxNew W g o s n w) (hb : Below w.heap.size w w') : IdxNew W g o s n w' := ⟨h.1.later hb, h.2.1, h.2.2.1, (hb.block g (heap_lt' h.2.2.2)).trans h.2.2.2⟩
theorem FO_ok (W : World) (n i : Nat) : FctOk ⟨i, FO W n⟩ := fun v w w' h hb => by obtain ⟨b, h1, h2, h3⟩ := h; exact ⟨b, h1, h2, h3.later hb⟩
theorem FS_ok (W : World) (n i : Nat) : FctOk ⟨i, FS W n⟩ := fun v w w' h hb => by obtain ⟨b, h1, h2, h3⟩ := h; exact ⟨b, h1, h2, h3.later hb⟩
theorem FA_ok (W : World) (n i : Nat) : FctOk ⟨i, FA W n⟩ := fun v w w' h hb => by obtain ⟨o, s, h1, h2⟩ := h; exact ⟨o, s, h1, h2.later hb⟩
theorem FG_ok (W : World) (n i : Nat) : FctOk ⟨i, FG W n⟩ := fun v w w' h hb => by obtain ⟨g, o, s, h1, h2⟩ := h; exact ⟨g, o, s, h1, h2.later hb⟩
theorem FG_new {W w : World} {o s n : Nat} (hs : W.heap.size ≤ w.heap.size) (h : TwoNew W o s n w) : FG W n (.pointer (some ⟨w.heap.size, 0, none⟩)) (w.alloc (.cells #[.bool true, .slice none 0 0, .pointer none, .slice (some ⟨o, 0, none⟩) n n, .slice (some ⟨s, 0, none⟩) n n] 57)) := by
  obtain ⟨cs, h1, _⟩ := h.2.2.1
  obtain ⟨ss, h2, _⟩ := h.2.2.2
  exact ⟨_, o, s, rfl, h.later ((Below.refl _ _).alloc (Nat.le_refl _) _), heap_lt' h1, heap_lt' h2, alloc_new _ _⟩
/-- why there is no index. -/
def idxCheckP (G : List Reg) : Int × Int :=
  if 64 < G.length then (3, 0) else
  match firstP G.length (fun i => decide ((regionCheckP (G.getD i [])).1 ≠ 0)) with
  | some i => ((regionCheckP (G.getD i [])).1, i)
  | none => (0, 0)
theorem fold_min_ge (f : Pt → Int) (B : Int) : ∀ (m : List Pt) (z : Int), B ≤ z → (∀ v ∈ m, B ≤ f v) → B ≤ m.foldl (fun z v => min z (f v)) z
  | [], z, h, _ => h
  | a :: m, z, h, h2 => fold_min_ge f B m _ (by have := h2 a (by simp); simp only; omega) (fun v hv => h2 v (by simp [hv]))
theorem fold_max_le (f : Pt → Int) (B : Int) : ∀ (m : List Pt) (z : Int), z ≤ B → (∀ v ∈ m, f v ≤ B) → m.foldl (fun z v => max z (f v)) z ≤ B
  | [], z, h, _ => h
  | a :: m, z, h, h2 => fold_max_le f B m _ (by have := h2 a (by simp); simp only; omega) (fun v hv => h2 v (by simp [hv]))
theorem bounds_small {l : List Pt} {lo hi : Pt} (h : boundsP l = some (lo, hi)) : (-1099511627775 ≤ lo.x ∧ -1099511627775 ≤ lo.y) ∧ hi.x ≤ 1099511627776 ∧ hi.y ≤ 1099511627776 := by
  obtain ⟨hv, _⟩ := bounds_in h
  match l, h, hv with
  | [], h, _ => cases h
  | a :: m, h, hv =>
    unfold boundsP at h
    dsimp only at h
    split at h
    · injection h with h
      injection h with e1 e2
      have hva := (validP_iff a).1 (hv a (by simp))
      have hvm : ∀ v ∈ m, (-1099511627775 ≤ v.x ∧ v.x ≤ 1099511627775) ∧ (-1099511627775 ≤ v.y ∧ v.y ≤ 1099511627775) := fun v hm => (validP_iff v).1 (hv v (by simp [hm]))
      subst e1 e2
      have q1 := fold_min_ge Pt.x (-1099511627775) m a.x hva.1.1 (fun v hm => (hvm v hm).1.1)
      have q2 := fold_min_ge Pt.y (-1099511627775) m a.y hva.2.1 (fun v hm => (hvm v hm).2.1)
      have q3 := fold_max_le Pt.x 1099511627775 m a.x hva.1.2 (fun v hm => (hvm v hm).1.2)
      have q4 := fold_max_le Pt.y 1099511627775 m a.y hva.2.2 (fun v hm => (hvm v hm).2.2)
      exact ⟨⟨q1, q2⟩, by simp only; omega, by simp only; omega⟩
    · cases h
theorem boxes_in {G : List Reg} (h : ∀ i, i < G.length → (regionCheckP (G.getD i [])).1 = 0) : InB (boxesR G) := by
  intro b hb
  unfold boxesR at hb
  obtain ⟨R, hR, rfl⟩ := List.mem_map.1 hb
  obtain ⟨i, hi, hiR⟩ := List.mem_iff_getElem.1 hR
  have hc := h i hi
  rw [List.getD_eq_getElem?_getD, List.getElem?_eq_getElem hi, Option.getD_some, hiR] at hc
  obtain ⟨lo, hi2, hbd⟩ := region_box hc
  have h1 := bounds_small hbd
  have h2 := (bounds_in hbd).2
  have hne : ∃ v, v ∈ R.flatten := by
    cases hf : R.flatten with
    | nil => rw [hf] at hbd; cases hbd
    | cons a m => exact ⟨a, by simp⟩
  obtain ⟨v, hv⟩ := hne
  have h3 := h2 v hv
  rw [hbd]
  unfold InI
  simp only [Option.getD_some]
  omega
theorem idxCheck_at {G : List Reg} {k : Nat} (h64 : G.length ≤ 64) (hk : k < G.length) (h : ∀ i, i < k → (regionCheckP (G.getD i [])).1 = 0) (hf : (regionCheckP (G.getD k [])).1 ≠ 0) : idxCheckP G = ((regionCheckP (G.getD k [])).1, (k : Int)) := by
  unfold idxCheckP
  rw [if_neg (by omega), firstP_some (k := k) hk (by exact decide_eq_true hf) (fun i hi => by exact decide_eq_false (fun e => e (h i hi)))]
theorem idxCheck_ok {G : List Reg} (h64 : G.length ≤ 64) (h : ∀ i, i < G.length → (regionCheckP (G.getD i [])).1 = 0) : idxCheckP G = (0, 0) := by
  unfold idxCheckP
  rw [if_neg (by omega), firstP_none (fun i hi => by exact decide_eq_false (fun e => e (h i hi)))]
/-- while the index is filled. -/
structure BSt (WZ : World) (g og sg n : Nat) (lv bv : Value) (L M : List Reg) (w : World) : Prop where
  below : Below g WZ w
  row : w.heap[g]? = some (.cells #[.bool true, lv, .pointer none, .slice (some ⟨og, 0, none⟩) n n, .slice (some ⟨sg, 0, none⟩) n n] 57 (0, 0))
  l : OwnG w (g + 1) lv L
  x : OwnX w (g + 1) bv (boxesR M)
theorem BSt.later {WZ w w' : World} {g og sg n : Nat} {lv bv : Value} {L M : List Reg} (h : BSt WZ g og sg n lv bv L M w) (hb : Below w.heap.size w w') : BSt WZ g og sg n lv bv L M w' :=
  ⟨h.below.trans (hb.mono (Nat.le_of_lt (heap_lt' h.row))), (hb.block g (heap_lt' h.row)).trans h.row, h.l.later hb, h.x.later hb⟩
theorem OwnR.otherX {w w' : World} {base base2 n : Nat} {v u : Value} {R : Reg} {xs : List Value} (h : OwnR w base u R) (hv : w.ownsRow base2 66 4 v n xs) (hg : w.grownBy w' v.ownBlock) : OwnR w' base u R := by
  obtain ⟨vs, h1, h2, h3⟩ := h
  refine ⟨vs, h1, World.ownsRow.kept h2 hg (own_apart (by decide) hv h2), fun i hi => ?_⟩
  obtain ⟨u, hu, ho⟩ := h3 i hi
  exact ⟨u, hu, World.ownsRow.kept ho hg (own_apart (by decide) hv ho)⟩
theorem OwnG.otherX {w w' : World} {base base2 n : Nat} {v u : Value} {G : List Reg} {xs : List Value} (h : OwnG w base u G) (hv : w.ownsRow base2 66 4 v n xs) (hg : w.grownBy w' v.ownBlock) : OwnG w' base u G := by
  obtain ⟨vs, h1, h2, h3⟩ := h
  refine ⟨vs, h1, World.ownsRow.kept h2 hg (own_apart (by decide) hv h2), fun i hi => ?_⟩
  obtain ⟨u, hu, ho⟩ := h3 i hi
  exact ⟨u, hu, ho.otherX hv hg⟩
theorem BSt.addX {WZ w w' : World} {g og sg n : Nat} {lv bv v' : Value} {L M M' : List Reg} (h : BSt WZ g og sg n lv bv L M w) (ho : OwnX w' (g + 1) v' (boxesR M')) (hg : w.grownBy w' bv.ownBlock) : BSt WZ g og sg n lv v' L M' w' :=
  ⟨h.below.grown hg (Nat.le_of_lt (heap_lt' h.row)) (fun k hk => by have := (h.x.lt k hk).1; omega), (hg.block g (heap_lt' h.row) (fun e => by have := (h.x.lt g e.symm).1; omega)).trans h.row, h.l.otherX h.x hg, ho⟩
theorem boxesR_more (L : List Reg) {R : Reg} {lo hi : Pt} (h : boundsP R.flatten = some (lo, hi)) : boxesR (L ++ [R]) = boxesR L ++ [(lo, hi)] := by simp [boxesR, h]
def StL (WZ : World) (g og sg n : Nat) (lv bv : Value) (L M : List Reg) (R : Reg) (C : World → Prop) : List Value → World → Prop
  | [], w => BSt WZ g og sg n lv bv L M w ∧ C w
  | [a], w => BSt WZ g og sg n lv bv L M w ∧ ∃ v, a = .agg #[v] ∧ OwnR w (g + 1) v R
  | [_, b], w => BSt WZ g og sg n lv bv L M w ∧ ∃ q v, b = .slice (some ⟨q, 0, none⟩) 1 1 ∧ w.heap[q]? = some (.cells #[v] 30 (0, 0)) ∧ OwnR w (g + 1) v R
  | [_, _, c], w => Below g WZ w ∧ w.heap[g]? = some (.cells #[.bool true, lv, .pointer none, .slice (some ⟨og, 0, none⟩) n n, .slice (some ⟨sg, 0, none⟩) n n] 57 (0, 0)) ∧ OwnG w (g + 1) c (L ++ [R]) ∧ OwnX w (g + 1) bv (boxesR M)
  | [_, _, c, _], w => BSt WZ g og sg n c bv (L ++ [R]) M w
  | _, _ => False
theorem StL.st {WZ w : World} {g og sg n : Nat} {lv bv : Value} {L M : List Reg} {R : Reg} {C : World → Prop} {vs : List Value} (hl : vs.length ≤ 2) (h : StL WZ g og sg n lv bv L M R C vs w) : BSt WZ g og sg n lv bv L M w := by
  match vs, h with
  | [], h => exact h.1
  | [_], h => exact h.1
  | [_, _], h => exact h.1
  | _ :: _ :: _ :: _, _ => simp at hl
theorem BSt.put {WZ w : World} {g og sg n : Nat} {lv bv c : Value} {L M : List Reg} (h1 : Below g WZ w) (h2 : w.heap[g]? = some (.cells #[.bool true, lv, .pointer none, .slice (some ⟨og, 0, none⟩) n n, .slice (some ⟨sg, 0, none⟩) n n] 57 (0, 0))) (h3 : OwnG w (g + 1) c L) (h4 : OwnX w (g + 1) bv (boxesR M)) : BSt WZ g og sg n c bv L M (w.setCell ⟨g, 1, none⟩ c) :=
  ⟨h1.setCell (p := ⟨g, 1, none⟩) (Nat.le_refl _) _, heap_setCell_same _ _ 1 _ _ c h2, h3.moveB fun k hk _ => Below.heap_setCell _ _ _ _ (by simp only; omega), ownsRow_move h4 fun k hk => Below.heap_setCell _ _ _ _ (by have := (h4.lt k hk).1; simp only; omega)⟩
theorem idx_made {WZ W0 w5 : World} {B g og sg n rb tg T : Nat} {lv bv : Value} {G : List Reg} (hs : BSt WZ g og sg n lv bv G G w5) (ht : TreeOn w5 T tg (boxesR G)) (hT : g + 1 ≤ T) (h3 : OnceRow WZ og n) (h4 : PtrRow WZ sg n) (h1 : W0.heap.size ≤ og) (h2 : W0.heap.size ≤ sg) (h5 : og < g) (h6 : sg < g) (hrb : rb < g) (hn : n = G.length) (h64 : n ≤ 64) (hB : B ≤ W0.heap.size) (hr : rb < W0.heap.size) (hok : ∀ i, i < G.length → (regionCheckP (G.getD i [])).1 = 0) :
    IdxOn (fun _ => False) (((w5.setCell ⟨g, 2, none⟩ (.pointer (some ⟨tg, 0, none⟩))).setCell ⟨rb, 0, none⟩ (.int .i64 0)).setCell ⟨rb, 1, none⟩ (.int .i64 0)) B g og sg G := by
  subst hn
  obtain ⟨cs, a1, a2, a3⟩ := h3
  obtain ⟨ss, b1, b2⟩ := h4
  have hne : og ≠ sg := fun e => by
    subst e
    rw [a1] at b1
    injection b1 with b1
    injection b1 with _ t
    exact absurd t (by decide)
  obtain ⟨w9, hw9⟩ : ∃ W, W = (((w5.setCell ⟨g, 2, none⟩ (.pointer (some ⟨tg, 0, none⟩))).setCell ⟨rb, 0, none⟩ (.int .i64 0)).setCell ⟨rb, 1, none⟩ (.int .i64 0)) := ⟨_, rfl⟩
  have hk : ∀ k, k ≠ g → k ≠ rb → w9.heap[k]? = w5.heap[k]? := fun k e1 e2 => by
    rw [hw9]
    exact (Below.heap_setCell _ _ _ _ e2).trans ((Below.heap_setCell _ _ _ _ e2).trans (Below.heap_setCell _ _ _ _ e1))
  have hgr : w9.heap[g]? = some (.cells (idxRow lv tg og sg G.length) 57 (0, 0)) := by
    rw [hw9]
    exact (Below.heap_setCell _ _ _ _ (by simp only; omega)).trans ((Below.heap_setCell _ _ _ _ (by simp only; omega)).trans (heap_setCell_same _ _ 2 _ _ _ hs.row))
  have go := ((hk og (by omega) (by omega)).trans (hs.below.block og h5)).trans a1
  have gs := ((hk sg (by omega) (by omega)).trans (hs.below.block sg h6)).trans b1
  rw [← hw9]
  have hmv : ∀ k, g + 1 ≤ k → k < w5.heap.size → w9.heap[k]? = w5.heap[k]? := fun k e1 _ => hk k (by omega) (by omega)
  have ht9 : TreeOn w9 (g + 1) tg (boxesR G) := by
    have h9 := ht.move (w' := w9) fun k e1 e2 => hmv k (by omega) e2
    obtain ⟨lv', ov, nv, O, N, ⟨t1, ⟨t2, t3, t4, t5⟩⟩, t6⟩ := h9
    exact ⟨lv', ov, nv, O, N, ⟨t1, ⟨ownsRow_base t2 hT, ownsRow_base t3 hT, ownsRow_base t4 hT, Nat.le_trans hT t5⟩⟩, t6⟩
  exact ⟨⟨lv, tg, w9, hgr, hs.l.moveB hmv, ht9, Since.start fun k hk => hk.elim⟩, ⟨cs, go, a2⟩, ⟨ss, gs, b2⟩, fun i hi => .inl ⟨(cell_of_row _ _ _ _ _ _ go).trans (a3 i hi).1, (cell_of_row _ _ _ _ _ _ go).trans (a3 i hi).2⟩, by omega, by omega, hne, h5, h6, h64, hok, fun k hk => hk.elim⟩
set_option maxRecDepth 100000 in
set_option maxHeartbeats 16000000 in
theorem IBuild_any (ao : Option Addr) (n cap : Nat) (G : List Reg) (w : World) (h : IsRegs w ao n cap G) (hs : ∀ i, i < n → sumLen (G.getD i []) ≤ 1000000000000) :
    Calls Tryz.prog 11 #[.slice ao n cap] w fun e w' => Below w.heap.size w w' ∧ ((idxCheckP G).1 = 0 → ∃ g og sg, e = .returned (.tuple #[.pointer (some ⟨g, 0, none⟩), .agg #[.int .i64 0, .int .i64 0]]) ∧ IdxOn (fun _ => False) w' w.heap.size g og sg G) ∧ ((idxCheckP G).1 ≠ 0 → e = .returned (.tuple #[.pointer none, faultV (idxCheckP G)])) := by
  have hn := h.1
  have hnc := h.2.1
  have hcm := h.2.2.1
  unfold maxLen at hcm
  obtain ⟨rb, hrb⟩ : ∃ b, b = w.heap.size := ⟨_, rfl⟩
  obtain ⟨W0, hW0⟩ : ∃ W, W = w.alloc (.cells #[.int .i64 0, .int .i64 0] 35) := ⟨_, rfl⟩
  have hb0 : Below w.heap.size w W0 := by rw [hW0]; exact (Below.refl _ _).alloc (Nat.le_refl _) _
  have hr0 : W0.heap[rb]? = some (.cells #[.int .i64 0, .int .i64 0] 35 (0, 0)) := by rw [hW0, hrb]; exact alloc_new _ _
  have HR0 := Lib.hid hr0
  have HB0 := Lib.hid hb0
  have HI := Lib.hid (h.later hb0 (Nat.le_refl _))
  have HS := Lib.hid hs
  have HN := Lib.hid hn
  have HRB := Lib.hid hrb
  obtain ⟨ck, hckp⟩ : ∃ c, c = idxCheckP G := ⟨_, rfl⟩
  rw [← hckp]
  have HCKP := Lib.hid hckp
  by_cases h64 : 64 < n
  · have h5 : (64 : Int) < (n : Int) := by omega
    have hck : ck = (3, 0) := by rw [hckp]; unfold idxCheckP; rw [if_pos (by omega)]
    subst hck
    clear h hs hb0 hr0 hn hckp
    have f0 : W0.frozen? ⟨rb, 0, none⟩ = false := frozen_of_row _ _ _ _ _ HR0.out
    have f1 : W0.frozen? ⟨rb, 1, none⟩ = false := frozen_of_row _ _ _ _ _ HR0.out
    rw [hW0, hrb] at f0 f1
    go_enter Tryz.func11, Tryz.ntmps11
    go_wp2_with fail
    refine bodyPost_ret (results_tf rfl rfl (alloc_new _ _)) rfl ⟨?_, fun h => absurd h (by decide), fun _ => rfl⟩
    exact (Below.refl _ _).alloc (Nat.le_refl _) _
  · have h5 : ¬ (64 : Int) < (n : Int) := by omega
    have HN64 : Hid (n ≤ 64) := Lib.hid (by omega)
    clear h hs hb0 hr0 hn hckp
    go_enter Tryz.func11, Tryz.ntmps11
    go_wp2_with fail
    rw [← hrb, ← hW0]
    clear hW0 hrb
    have HOK : ∀ f ∈ ([⟨2, FO W0 n⟩, ⟨5, FS W0 n⟩, ⟨6, FA W0 n⟩, ⟨7, FG W0 n⟩, ⟨8, FG W0 n⟩] : List Fct), FctOk f := by
      intro f hf
      simp only [List.mem_cons, List.not_mem_nil, or_false] at hf
      rcases hf with rfl | rfl | rfl | rfl | rfl
      · exact FO_ok _ _ _
      · exact FS_ok _ _ _
      · exact FA_ok _ _ _
      · exact FG_ok _ _ _
      · exact FG_ok _ _ _
    refine wp_region_J (s := [(15, 0), (16, 1), (17, 2), (18, 3), (19, 4), (20, 5), (21, 6), (22, 7), (4, 8)]) (by kernel_rfl) (GrowJ W0 (fun iX => match iX with | 0 => some (.slice ao n cap) | 1 => some (.int .i64 (n : Int)) | 3 => some (.slice ao n cap) | 4 => some (.int .i64 (n : Int)) | _ => none) [⟨2, FO W0 n⟩, ⟨5, FS W0 n⟩, ⟨6, FA W0 n⟩, ⟨7, FG W0 n⟩, ⟨8, FG W0 n⟩]) (by kernel_rfl) (by kernel_rfl) (by kernel_rfl) (by kernel_rfl) (fun _ => undef) ?start3 ?step3 ?done3
    case start3 => exact GrowJ.start ((Below.refl _ _).drew)
    case step3 =>
      refine ⟨?o3_0, ?o3_1, ?o3_2, ?o3_3, ?o3_4, ?o3_5, ?o3_6, ?o3_7, ?o3_8, trivial⟩
      case o3_0 =>
        intro LX V aX wX K hl hp hcl hf hJ hK
        have t0 : aX.tmps[0]? = some (.slice ao n cap) := hf.old (by kernel_rfl) rfl
        rw [if_pos (by rfl)]
        go_simp
        exact hK _ _ (hJ.val HOK 0 _ (by kernel_rfl) rfl (Below.refl _ _))
      case o3_1 =>
        intro LX V aX wX K hl hp hcl hf hJ hK
        have t15 := hf.in (i := 0) (d := 15) (by kernel_rfl) (hp 0 (by kernel_rfl)) (hJ.vals 0 _ rfl (hp 0 (by kernel_rfl)))
        rw [if_pos (by rfl)]
        go_simp
        exact hK _ _ (hJ.val HOK 1 _ (by kernel_rfl) rfl (Below.refl _ _))
      case o3_2 =>
        intro LX V aX wX K hl hp hcl hf hJ hK
        have t16 := hf.in (i := 1) (d := 16) (by kernel_rfl) (hp 1 (by kernel_rfl)) (hJ.vals 1 _ rfl (hp 1 (by kernel_rfl)))
        obtain ⟨wA, hmk, hbA, hro, hsz⟩ := make_onces n HN64.out wX
        rw [if_pos (by rfl)]
        go_simp
        exact hK _ _ (hJ.step HOK 2 _ trivial (hbA) (by
          intro f hf hfi
          simp only [List.mem_cons, List.not_mem_nil, or_false] at hf
          rcases hf with rfl | rfl | rfl | rfl | rfl
          · exact ⟨_, rfl, hJ.below.size, hro⟩
          · exact absurd (show (5 : Nat) = 2 from hfi) (by decide)
          · exact absurd (show (6 : Nat) = 2 from hfi) (by decide)
          · exact absurd (show (7 : Nat) = 2 from hfi) (by decide)
          · exact absurd (show (8 : Nat) = 2 from hfi) (by decide)
          ))
      case o3_3 =>
        intro LX V aX wX K hl hp hcl hf hJ hK
        have t0 : aX.tmps[0]? = some (.slice ao n cap) := hf.old (by kernel_rfl) rfl
        rw [if_pos (by rfl)]
        go_simp
        exact hK _ _ (hJ.val HOK 3 _ (by kernel_rfl) rfl (Below.refl _ _))
      case o3_4 =>
        intro LX V aX wX K hl hp hcl hf hJ hK
        have t18 := hf.in (i := 3) (d := 18) (by kernel_rfl) (hp 3 (by kernel_rfl)) (hJ.vals 3 _ rfl (hp 3 (by kernel_rfl)))
        rw [if_pos (by rfl)]
        go_simp
        exact hK _ _ (hJ.val HOK 4 _ (by kernel_rfl) rfl (Below.refl _ _))
      case o3_5 =>
        intro LX V aX wX K hl hp hcl hf hJ hK
        have t19 := hf.in (i := 4) (d := 19) (by kernel_rfl) (hp 4 (by kernel_rfl)) (hJ.vals 4 _ rfl (hp 4 (by kernel_rfl)))
        obtain ⟨wA, hmk, hbA, hro, hsz⟩ := make_ptrs n HN64.out wX
        rw [if_pos (by rfl)]
        go_simp
        exact hK _ _ (hJ.step HOK 5 _ trivial (hbA) (by
          intro f hf hfi
          simp only [List.mem_cons, List.not_mem_nil, or_false] at hf
          rcases hf with rfl | rfl | rfl | rfl | rfl
          · exact absurd (show (2 : Nat) = 5 from hfi) (by decide)
          · exact ⟨_, rfl, hJ.below.size, hro⟩
          · exact absurd (show (6 : Nat) = 5 from hfi) (by decide)
          · exact absurd (show (7 : Nat) = 5 from hfi) (by decide)
          · exact absurd (show (8 : Nat) = 5 from hfi) (by decide)
          ))
      case o3_6 =>
        intro LX V aX wX K hl hp hcl hf hJ hK
        have t17 := hf.in (i := 2) (d := 17) (by kernel_rfl) (hp 2 (by kernel_rfl)) rfl
        have t20 := hf.in (i := 5) (d := 20) (by kernel_rfl) (hp 5 (by kernel_rfl)) rfl
        have q0 := hJ.facts ⟨2, FO W0 n⟩ (List.mem_of_getElem? (i := 0) rfl) (hp 2 (by kernel_rfl))
        have q1 := hJ.facts ⟨5, FS W0 n⟩ (List.mem_of_getElem? (i := 1) rfl) (hp 5 (by kernel_rfl))
        obtain ⟨o, h1, h2, h3⟩ := q0
        obtain ⟨s, h4, h5, h6⟩ := q1
        replace h1 : V 2 = _ := h1
        replace h4 : V 5 = _ := h4
        rw [h1] at t17
        rw [h4] at t20
        rw [if_pos (by rfl)]
        go_simp
        exact hK _ _ (hJ.step HOK 6 _ trivial (Below.refl _ _) (by
          intro f hf hfi
          simp only [List.mem_cons, List.not_mem_nil, or_false] at hf
          rcases hf with rfl | rfl | rfl | rfl | rfl
          · exact absurd (show (2 : Nat) = 6 from hfi) (by decide)
          · exact absurd (show (5 : Nat) = 6 from hfi) (by decide)
          · exact ⟨o, s, rfl, h2, h5, h3, h6⟩
          · exact absurd (show (7 : Nat) = 6 from hfi) (by decide)
          · exact absurd (show (8 : Nat) = 6 from hfi) (by decide)
          ))
      case o3_7 =>
        intro LX V aX wX K hl hp hcl hf hJ hK
        have t21 := hf.in (i := 6) (d := 21) (by kernel_rfl) (hp 6 (by kernel_rfl)) rfl
        have q2 := hJ.facts ⟨6, FA W0 n⟩ (List.mem_of_getElem? (i := 2) rfl) (hp 6 (by kernel_rfl))
        obtain ⟨o, s, h1, h2⟩ := q2
        replace h1 : V 6 = _ := h1
        rw [h1] at t21
        rw [if_pos (by rfl)]
        go_simp
        exact hK _ _ (hJ.step HOK 7 _ trivial ((Below.refl _ _).alloc (Nat.le_refl _) _) (by
          intro f hf hfi
          simp only [List.mem_cons, List.not_mem_nil, or_false] at hf
          rcases hf with rfl | rfl | rfl | rfl | rfl
          · exact absurd (show (2 : Nat) = 7 from hfi) (by decide)
          · exact absurd (show (5 : Nat) = 7 from hfi) (by decide)
          · exact absurd (show (6 : Nat) = 7 from hfi) (by decide)
          · exact FG_new hJ.below.size h2
          · exact absurd (show (8 : Nat) = 7 from hfi) (by decide)
          ))
      case o3_8 =>
        intro LX V aX wX K hl hp hcl hf hJ hK
        have t22 := hf.in (i := 7) (d := 22) (by kernel_rfl) (hp 7 (by kernel_rfl)) rfl
        have q3 := hJ.facts ⟨7, FG W0 n⟩ (List.mem_of_getElem? (i := 3) rfl) (hp 7 (by kernel_rfl))
        obtain ⟨g, o, s, h1, h2⟩ := q3
        replace h1 : V 7 = _ := h1
        rw [h1] at t22
        rw [if_pos (by rfl)]
        go_simp
        exact hK _ _ (hJ.step HOK 8 _ trivial (Below.refl _ _) (by
          intro f hf hfi
          simp only [List.mem_cons, List.not_mem_nil, or_false] at hf
          rcases hf with rfl | rfl | rfl | rfl | rfl
          · exact absurd (show (2 : Nat) = 8 from hfi) (by decide)
          · exact absurd (show (5 : Nat) = 8 from hfi) (by decide)
          · exact absurd (show (6 : Nat) = 8 from hfi) (by decide)
          · exact absurd (show (7 : Nat) = 8 from hfi) (by decide)
          · exact ⟨g, o, s, rfl, h2⟩
          ))
    intro V wZ hJ
    have q4 := hJ.facts ⟨8, FG W0 n⟩ (List.mem_of_getElem? (i := 4) rfl) (by kernel_rfl)
    obtain ⟨g, og, sg, hv4, hnew⟩ := q4
    replace hv4 : V 8 = _ := hv4
    have HBZ := Lib.hid hJ.below
    have HNEW := Lib.hid hnew
    simp only [puts, Act.put, List.setIfInBounds_toArray, List.set_cons_zero, List.set_cons_succ]
    rw [hv4]
    clear hJ HOK hv4 hnew
    obtain ⟨⟨hn1, hn2, hn3, hn4⟩, hn5, hn6, hn7⟩ := HNEW.out
    have HST0 : Hid (BSt wZ g og sg n (.slice none 0 0) (.slice none 0 0) [] [] wZ) := Lib.hid ⟨Below.refl _ _, hn7, OwnG.nil _ _, OwnX.nil _ _⟩
    have HGW : Hid (W0.heap.size ≤ wZ.heap.size ∧ g < wZ.heap.size ∧ W0.heap.size ≤ g) := Lib.hid ⟨HBZ.out.size, heap_lt' hn7, by omega⟩
    have HRZ := Lib.hid ((HBZ.out.block rb (heap_lt' HR0.out)).trans HR0.out)
    clear hn1 hn2 hn3 hn4 hn5 hn6 hn7
    go_wp2_with fail
    go_loopw [5, 25] (fun bv kv wr => ∃ k : Nat, k ≤ n ∧ kv = .int .i64 k ∧ (∃ lv, Hid (BSt wZ g og sg n lv bv (G.take k) (G.take k) wr)) ∧ Hid (∀ i, i < k → (regionCheckP (G.getD i [])).1 = 0)) (fun _ kv _ => n - (intOf kv).toNat)
    case atStart => exact ⟨0, by omega, rfl, ⟨_, HST0⟩, Lib.hid (fun i hi => absurd hi (by omega))⟩
    case round =>
      obtain ⟨k, hk, rfl, ⟨lv, HST⟩, HOK⟩ := hrel
      by_cases hlt : k < n
      · have hk0 : (0 : Int) ≤ (k : Int) := by omega
        have hk5 : (k : Int) < (n : Int) := by omega
        have hwk : IntKind.i64.wrap ((k : Int) + 1) = (k : Int) + 1 := IntWalk.i64_in _ (by have := HN64.out; omega)
        obtain ⟨b, off, x, y, z, hao, e0, hR⟩ := HI.out.2.2.2.2 k hlt
        subst hao
        obtain ⟨R, hRd⟩ : ∃ R, R = G.getD k [] := ⟨_, rfl⟩
        rw [← hRd] at hR
        have hsm := HS.out k hlt
        rw [← hRd] at hsm
        have hbW : Below W0.heap.size W0 wr := HBZ.out.trans (HST.out.below.mono HGW.out.2.2)
        have c0 : wr.cell? ⟨b, off + k, none⟩ = some (.slice x y z) := (hbW.cell (p := ⟨b, off + k, none⟩) (block_lt_of_cell e0)).trans e0
        have HBW := Lib.hid hbW
        have HR := Lib.hid (hR.later hbW (Nat.le_refl _))
        have HRA : Hid (∀ wX, Below W0.heap.size W0 wX → IsRings wX x y z R) := Lib.hid (fun wX hb => hR.later hb (Nat.le_refl _))
        have HRD := Lib.hid hRd
        have HSM := Lib.hid hsm
        clear hR hsm hbW e0 hRd
        go_wp2_with fail
        obtain ⟨r7, hr7⟩ : ∃ b, b = wr.heap.size := ⟨_, rfl⟩
        obtain ⟨W7, hW7⟩ : ∃ W, W = wr.alloc (.cells #[.slice x y z] 30) := ⟨_, rfl⟩
        have hb7 : Below wr.heap.size wr W7 := by rw [hW7]; exact (Below.refl _ _).alloc (Nat.le_refl _) _
        have hc7 : W7.heap[r7]? = some (.cells #[.slice x y z] 30 (0, 0)) := by rw [hW7, hr7]; exact alloc_new _ _
        have HC7 := Lib.hid hc7
        have HB7 := Lib.hid hb7
        have HCK := Lib.hid (Check_region x y z R W7 (HR.out.later hb7 (Nat.le_refl _)) HSM.out)
        have HR7 := Lib.hid hr7
        rw [← hr7, ← hW7]
        clear hr7 hW7 hb7 hc7
        obtain ⟨fx, hfx⟩ : ∃ f, f = regionCheckP R := ⟨_, rfl⟩
        rw [← hfx] at HCK
        have HFX := Lib.hid hfx
        obtain ⟨f, fa⟩ := fx
        unfold faultV at HCK
        dsimp only at HCK
        refine HCK.out.mono ?_
        rintro e w2 ⟨rfl, hb2⟩
        have HB2 := Lib.hid (HB7.out.trans (hb2.mono HB7.out.size))
        have HC2 := Lib.hid ((hb2.block r7 (heap_lt' HC7.out)).trans HC7.out)
        clear hb2 hfx
        by_cases hf : f = 0
        · subst hf
          have HRK : Hid ((regionCheckP R).1 = 0) := Lib.hid (by rw [← HFX.out])
          obtain ⟨W8, hW8⟩ : ∃ W, W = w2.alloc (.cells #[.int .i64 0, .int .i64 fa] 35) := ⟨_, rfl⟩
          have hb8 : Below w2.heap.size w2 W8 := by rw [hW8]; exact (Below.refl _ _).alloc (Nat.le_refl _) _
          have HB8 := Lib.hid (HB2.out.trans (hb8.mono HB2.out.size))
          have HC8 := Lib.hid ((hb8.block r7 (heap_lt' HC2.out)).trans HC2.out)
          have c7 : W8.cell? ⟨r7, 0, none⟩ = some (.slice x y z) := cell_of_row _ _ _ _ _ _ HC8.out
          rw [hW8] at c7
          go_wp2_with fail
          rw [← hW8]
          clear c7 hb8 hW8
          refine (Box_region x y z R W8 (HR.out.later HB8.out (Nat.le_refl _)) (by have := (region_ok HRK.out).2.2.1; omega)).mono ?_
          rintro e w3 ⟨rfl, hb3⟩
          obtain ⟨lo, hi, hbd⟩ := region_box HRK.out
          unfold boundsV
          rw [hbd]
          dsimp only
          unfold boxV
          have HB3 := Lib.hid (HB8.out.trans (hb3.mono HB8.out.size))
          have HC3 := Lib.hid ((hb3.block r7 (heap_lt' HC8.out)).trans HC8.out)
          have HBD := Lib.hid hbd
          clear hb3 hbd
          have HKL : Hid ((boxesR (G.take k)).length + 1 ≤ 1000000000) := Lib.hid (by unfold boxesR; rw [List.length_map, List.length_take]; omega)
          have HGS : Hid (g + 1 ≤ wr.heap.size) := Lib.hid (heap_lt' HST.out.row)
          go_wp2_with (at_builtin; refine wpList_append_X rfl _ _ rfl (g + 1) u5 (boxesR (G.take k)) rfl (HST.out.x.later ((HB3.out.alloc HB3.out.size _).alloc (Nat.le_trans HB3.out.size (by simp)) _)) _ _ _ [(lo, hi)] rfl (one_X _ (lo, hi) (by simp)) HKL.out (by have := HGS.out; have := HB3.out.size; simp; omega) ?_
                       intro bv2 w4 ho4 hg4 _
                       obtain ⟨xa, xc, hxv, _⟩ := OwnX.is ho4
                       have H4 := Lib.hid (And.intro ho4 hg4)
                       clear ho4 hg4)
          have hbx2 := boxesR_more (G.take k) HBD.out
          have hst4 := HST.out.later ((HB3.out.alloc HB3.out.size (Obj.cells #[.int .i64 lo.x, .int .i64 lo.y, .int .i64 hi.x, .int .i64 hi.y] 66)).alloc (Nat.le_trans HB3.out.size (by simp)) (Obj.cells #[.int .i64 lo.x, .int .i64 lo.y, .int .i64 hi.x, .int .i64 hi.y] 66))
          have hbv : bv2 = .slice xa ((boxesR (G.take k)).length + 1) xc := by rw [hxv, List.length_append]; rfl
          rw [← hbv]
          have H13 := Lib.hid (hst4.addX (M' := G.take k ++ [R]) (by rw [hbx2]; exact H4.out.1) H4.out.2)
          have hcl4 := ((((Below.refl _ _).alloc (Nat.le_refl _) (Obj.cells #[.int .i64 lo.x, .int .i64 lo.y, .int .i64 hi.x, .int .i64 hi.y] 66)).alloc (by simp) (Obj.cells #[.int .i64 lo.x, .int .i64 lo.y, .int .i64 hi.x, .int .i64 hi.y] 66) : Below w3.heap.size w3 _).block r7 (heap_lt' HC3.out)).trans HC3.out
          have hc4 := (H4.out.2.block r7 (heap_lt' hcl4) (fun e => own_typed (HST.out.x.later ((HB3.out.alloc HB3.out.size (Obj.cells #[.int .i64 lo.x, .int .i64 lo.y, .int .i64 hi.x, .int .i64 hi.y] 66)).alloc (Nat.le_trans HB3.out.size (by simp)) (Obj.cells #[.int .i64 lo.x, .int .i64 lo.y, .int .i64 hi.x, .int .i64 hi.y] 66))) hcl4 (by decide) e.symm)).trans hcl4
          have HC4 : Hid (w4.cell? ⟨r7, 0, none⟩ = some (.slice x y z)) := Lib.hid (cell_of_row _ _ _ _ _ _ hc4)
          have HCLN : Hid (∀ wX, Below g wZ wX → Calls Tryz.prog 29 #[.agg #[.slice x y z]] wX fun e w' => ∃ v, e = .returned (.agg #[v]) ∧ OwnR w' wX.heap.size v R ∧ Below wX.heap.size wX w') := Lib.hid (fun wX hb => by
            have hbI : Below W0.heap.size W0 wX := HBZ.out.trans (hb.mono HGW.out.2.2)
            obtain ⟨b9, off9, x9, y9, z9, hao9, e9, hR9⟩ := HI.out.2.2.2.2 k hlt
            have : IsRings wX x y z R := HRA.out wX hbI
            exact clone_any x y z R wX this ⟨by have := (region_ok HRK.out).2.1; omega, fun j hj => by have := (region_ok HRK.out).2.2.1; have := sumLen_get hj; omega⟩)
          obtain ⟨la, lc, hla, _⟩ := HST.out.l.regs
          obtain ⟨L, hLd⟩ : ∃ L, L = G.take k := ⟨_, rfl⟩
          rw [← hLd] at HST hla H13
          have hLl : L.length = k := by rw [hLd, List.length_take]; have := HN.out; omega
          rw [hLl] at hla
          subst hla
          have HLL : Hid (L.length ≤ 4294967296) := Lib.hid (by omega)
          have HLT : Hid (G.take (k + 1) = L ++ [R]) := Lib.hid (by rw [hLd, HRD.out, List.take_add_one, List.getElem?_eq_getElem (by have := HN.out; omega), List.getD_eq_getElem?_getD, List.getElem?_eq_getElem (by have := HN.out; omega)]; rfl)
          have HBV := Lib.hid hbv
          rw [hbv]
          clear hbx2 hst4 hcl4 hc4 hLd hLl hbv hxv H4 HST
          refine wp_region_J (s := [(48, 0), (49, 1), (50, 2), (51, 3), (52, 4), (53, 5), (54, 6), (55, 7), (56, 8), (57, 9), (58, 10)]) (by kernel_rfl) (ChainJ (fun iX => match iX with | 0 => some (.pointer (some ⟨g, 0, none⟩)) | 1 => some (.pointer (some ⟨g, 0, none⟩)) | 2 => some (.pointer (some ⟨g, 0, none⟩)) | 3 => some (.pointer (some ⟨g, 1, none⟩)) | 4 => some (.slice la k lc) | 5 => some (.agg #[.slice x y z]) | 9 => some (.pointer (some ⟨g, 0, none⟩)) | 10 => some (.pointer (some ⟨g, 1, none⟩)) | _ => none) [6, 7, 8, 11] (StL wZ g og sg n (.slice la k lc) bv2 L (L ++ [R]) R (fun w => w.cell? ⟨r7, 0, none⟩ = some (.slice x y z)))) (by kernel_rfl) (by kernel_rfl) (by kernel_rfl) (by kernel_rfl) (fun _ => undef) ?start13 ?step13 ?done13
          case start13 => exact ChainJ.start (⟨H13.out.later ((Below.refl _ _).drew), HC4.out⟩)
          case step13 =>
            refine ⟨?o13_0, ?o13_1, ?o13_2, ?o13_3, ?o13_4, ?o13_5, ?o13_6, ?o13_7, ?o13_8, ?o13_9, ?o13_10, ?o13_11, trivial⟩
            case o13_0 =>
              intro LX V aX wX K hl hp hcl hf hJ hK
              have t4 : aX.tmps[4]? = some (.pointer (some ⟨g, 0, none⟩)) := hf.old (by kernel_rfl) rfl
              rw [if_pos (by rfl)]
              go_simp
              exact hK _ _ (hJ.val 0 _ (by kernel_rfl) rfl (fun _ h => h))
            case o13_1 =>
              intro LX V aX wX K hl hp hcl hf hJ hK
              have t4 : aX.tmps[4]? = some (.pointer (some ⟨g, 0, none⟩)) := hf.old (by kernel_rfl) rfl
              rw [if_pos (by rfl)]
              go_simp
              exact hK _ _ (hJ.val 1 _ (by kernel_rfl) rfl (fun _ h => h))
            case o13_2 =>
              intro LX V aX wX K hl hp hcl hf hJ hK
              have t49 := hf.in (i := 1) (d := 49) (by kernel_rfl) (hp 1 (by kernel_rfl)) (hJ.vals 1 _ rfl (hp 1 (by kernel_rfl)))
              rw [if_pos (by rfl)]
              go_simp
              exact hK _ _ (hJ.val 2 _ (by kernel_rfl) rfl (fun _ h => h))
            case o13_3 =>
              intro LX V aX wX K hl hp hcl hf hJ hK
              have t50 := hf.in (i := 2) (d := 50) (by kernel_rfl) (hp 2 (by kernel_rfl)) (hJ.vals 2 _ rfl (hp 2 (by kernel_rfl)))
              rw [if_pos (by rfl)]
              go_simp
              exact hK _ _ (hJ.val 3 _ (by kernel_rfl) rfl (fun _ h => h))
            case o13_4 =>
              intro LX V aX wX K hl hp hcl hf hJ hK
              have t51 := hf.in (i := 3) (d := 51) (by kernel_rfl) (hp 3 (by kernel_rfl)) (hJ.vals 3 _ rfl (hp 3 (by kernel_rfl)))
              obtain ⟨vs, hlen, hS⟩ := hJ.upto 2 (by decide) (hcl.no 8 (by kernel_rfl) hl)
              have hst := StL.st hlen hS
              have c1 : wX.cell? ⟨g, 1, none⟩ = some (.slice la k lc) := cell_of_row _ _ _ _ _ _ hst.row
              clear hst
              rw [if_pos (by rfl)]
              go_simp
              exact hK _ _ (hJ.val 4 _ (by kernel_rfl) rfl (fun _ h => h))
            case o13_5 =>
              intro LX V aX wX K hl hp hcl hf hJ hK
              have t7 : aX.tmps[7]? = some (.pointer (some ⟨r7, 0, none⟩)) := hf.old (by kernel_rfl) rfl
              obtain ⟨vs, hlen, hS⟩ := hJ.upto 0 (by decide) (hcl.no 6 (by kernel_rfl) hl)
              have c1 : wX.cell? ⟨r7, 0, none⟩ = some (.slice x y z) := by
                match vs, hlen, hS with
                | [], _, hS => exact hS.2
                | _ :: _, h, _ => exact absurd h (by simp)
              rw [if_pos (by rfl)]
              go_simp
              exact hK _ _ (hJ.val 5 _ (by kernel_rfl) rfl (fun _ h => h))
            case o13_6 =>
              intro LX V aX wX K hl hp hcl hf hJ hK
              have t53 := hf.in (i := 5) (d := 53) (by kernel_rfl) (hp 5 (by kernel_rfl)) (hJ.vals 5 _ rfl (hp 5 (by kernel_rfl)))
              rw [if_pos (by rfl)]
              obtain ⟨vs, hlen, hvs, hS, hn⟩ := hJ.next (by kernel_rfl) 0 (by kernel_rfl) hl (.inl rfl) rfl
              match vs, hlen, hvs, hS, hn with
              | [], _, hvs, hS, hn =>
                have HS := Lib.hid hS.1
                clear hS
                go_simp
                refine (HCLN.out wX HS.out.below).mono ?_
                rintro e wA ⟨v, rfl, ho, hb⟩
                exact hK _ _ (hn _ _ ⟨HS.out.later hb, v, rfl, ho.base (heap_lt' HS.out.row)⟩)
            case o13_7 =>
              intro LX V aX wX K hl hp hcl hf hJ hK
              have t54 := hf.in (i := 6) (d := 54) (by kernel_rfl) (hp 6 (by kernel_rfl)) rfl
              rw [if_pos (by rfl)]
              obtain ⟨vs, hlen, hvs, hS, hn⟩ := hJ.next (by kernel_rfl) 1 (by kernel_rfl) hl (.inr (hp 6 (by kernel_rfl))) rfl
              match vs, hlen, hvs, hS, hn with
              | [a0], _, hvs, hS, hn =>
                have e0 : V 6 = a0 := hvs 0 (by decide)
                obtain ⟨h1, v, hv, h2⟩ := hS
                obtain ⟨pa, pc, hpa, _⟩ := h2.rings
                have hpa2 := hpa
                generalize R.length = pl at hpa
                rw [e0, hv, hpa] at t54
                go_simp
                exact hK _ _ (hn _ _ ⟨h1.later ((Below.refl _ _).alloc (Nat.le_refl _) _), _, v, rfl, by rw [hpa]; exact alloc_new _ _, h2.later ((Below.refl _ _).alloc (Nat.le_refl _) _)⟩)
            case o13_8 =>
              intro LX V aX wX K hl hp hcl hf hJ hK
              have t52 := hf.in (i := 4) (d := 52) (by kernel_rfl) (hp 4 (by kernel_rfl)) (hJ.vals 4 _ rfl (hp 4 (by kernel_rfl)))
              have t55 := hf.in (i := 7) (d := 55) (by kernel_rfl) (hp 7 (by kernel_rfl)) rfl
              rw [if_pos (by rfl)]
              obtain ⟨vs, hlen, hvs, hS, hn⟩ := hJ.next (by kernel_rfl) 2 (by kernel_rfl) hl (.inr (hp 7 (by kernel_rfl))) rfl
              match vs, hlen, hvs, hS, hn with
              | [a0, a1], _, hvs, hS, hn =>
                have e0 : V 6 = a0 := hvs 0 (by decide)
                have e1 : V 7 = a1 := hvs 1 (by decide)
                obtain ⟨h1, q, v, hq, hh, h2⟩ := hS
                rw [e1, hq] at t55
                refine opwp_append_reg _ _ rfl (g + 1) _ L (eval_tmp t52) h1.l q (eval_tmp t55) v R h2 hh HLL.out (heap_lt' h1.row) ?_
                intro v' w' ho hg
                exact hK _ _ (hn _ _ ⟨h1.below.grown hg (Nat.le_of_lt (heap_lt' h1.row)) (fun k hk => by have := (h1.l.lt k hk).1; omega), (hg.block g (heap_lt' h1.row) (fun e => by have := (h1.l.lt g e.symm).1; omega)).trans h1.row, ho, by obtain ⟨vs, _, hv2, _⟩ := h1.l; exact World.ownsRow.kept h1.x hg (own_apart (by decide) hv2 h1.x)⟩)
            case o13_9 =>
              intro LX V aX wX K hl hp hcl hf hJ hK
              have t48 := hf.in (i := 0) (d := 48) (by kernel_rfl) (hp 0 (by kernel_rfl)) (hJ.vals 0 _ rfl (hp 0 (by kernel_rfl)))
              rw [if_pos (by rfl)]
              go_simp
              exact hK _ _ (hJ.val 9 _ (by kernel_rfl) rfl (fun _ h => h))
            case o13_10 =>
              intro LX V aX wX K hl hp hcl hf hJ hK
              have t57 := hf.in (i := 9) (d := 57) (by kernel_rfl) (hp 9 (by kernel_rfl)) (hJ.vals 9 _ rfl (hp 9 (by kernel_rfl)))
              rw [if_pos (by rfl)]
              go_simp
              exact hK _ _ (hJ.val 10 _ (by kernel_rfl) rfl (fun _ h => h))
            case o13_11 =>
              intro LX V aX wX K hl hp hcl hf hJ hK
              have t58 := hf.in (i := 10) (d := 58) (by kernel_rfl) (hp 10 (by kernel_rfl)) (hJ.vals 10 _ rfl (hp 10 (by kernel_rfl)))
              have t56 := hf.in (i := 8) (d := 56) (by kernel_rfl) (hp 8 (by kernel_rfl)) rfl
              rw [if_pos (by rfl)]
              obtain ⟨vs, hlen, hvs, hS, hn⟩ := hJ.next (by kernel_rfl) 3 (by kernel_rfl) hl (.inr (hp 8 (by kernel_rfl))) rfl
              match vs, hlen, hvs, hS, hn with
              | [a0, a1, a2], _, hvs, hS, hn =>
                have e0 : V 6 = a0 := hvs 0 (by decide)
                have e1 : V 7 = a1 := hvs 1 (by decide)
                have e2 : V 8 = a2 := hvs 2 (by decide)
                obtain ⟨h0, h1, h2, h3⟩ := hS
                obtain ⟨na, nc, hna, _⟩ := h2.regs
                have f1 := frozen_of_row _ _ 1 _ _ h1
                have c1 : wX.cell? ⟨g, 1, none⟩ = some (.slice la k lc) := cell_of_row _ _ _ _ _ _ h1
                generalize hM : (L ++ [R]).length = Mn at hna
                rw [e2, hna] at t56
                go_simp
                refine hK undef _ (hn undef _ ?_)
                rw [hna] at h2 ⊢
                exact BSt.put h0 h1 h2 h3
          intro V wZ hJ
          obtain ⟨vs, hlen, hvs, hS⟩ := hJ.all (by kernel_rfl)
          match vs, hlen, hvs, hS with
          | [a0, a1, a2, a3], _, hvs, hS =>
            have e0 : V 6 = a0 := hvs 0 (by decide)
            have e1 : V 7 = a1 := hvs 1 (by decide)
            have e2 : V 8 = a2 := hvs 2 (by decide)
            have e3 : V 11 = a3 := hvs 3 (by decide)
            have HS := Lib.hid hS
            simp only [puts, Act.put, List.setIfInBounds_toArray, List.set_cons_zero, List.set_cons_succ]
            clear hJ hvs e0 e1 e2 e3 hS
            go_wp2_with fail
            rw [← HBV.out]
            go_roundw
            case rel => exact ⟨k + 1, by omega, by go_num, ⟨a2, Lib.hid (by rw [HLT.out]; exact HS.out)⟩, Lib.hid (fun i hi => by
                by_cases hik : i = k
                · subst hik; rw [← HRD.out]; exact HRK.out
                · exact HOK.out i (by omega))⟩
            case measure => simp [intOf]; omega
        · have HNF := Lib.hid hf
          have hrow2 := ((HBW.out.trans (HB2.out.mono HBW.out.size)).block rb (heap_lt' HR0.out)).trans HR0.out
          have HRW := Lib.hid hrow2
          have f0 : (w2.alloc (.cells #[.int .i64 f, .int .i64 fa] 35)).frozen? ⟨rb, 0, none⟩ = false := frozen_of_row _ _ _ _ _ ((Below.heap_alloc _ _ _ (heap_lt' hrow2)).trans hrow2)
          have f1 : (w2.alloc (.cells #[.int .i64 f, .int .i64 fa] 35)).frozen? ⟨rb, 1, none⟩ = false := frozen_of_row _ _ _ _ _ ((Below.heap_alloc _ _ _ (heap_lt' hrow2)).trans hrow2)
          have hfe : (f != 0) = true := by simp [hf]
          have hrow3 := (Below.heap_alloc w2 (Obj.cells #[.int .i64 f, .int .i64 fa] 35) rb (heap_lt' hrow2)).trans hrow2
          have HROW3 := Lib.hid hrow3
          have c0' : (w2.alloc (.cells #[.int .i64 f, .int .i64 fa] 35)).cell? ⟨rb, 0, none⟩ = some (.int .i64 0) := cell_of_row _ _ _ _ _ _ hrow3
          have c1' : (w2.alloc (.cells #[.int .i64 f, .int .i64 fa] 35)).cell? ⟨rb, 1, none⟩ = some (.int .i64 0) := cell_of_row _ _ _ _ _ _ hrow3
          have hbW9 : Below w.heap.size w (w2.alloc (.cells #[.int .i64 f, .int .i64 fa] 35)) := (((HB0.out.trans (HBW.out.mono HB0.out.size)).trans (HB2.out.mono (Nat.le_trans HB0.out.size HBW.out.size))).alloc (Nat.le_trans HB0.out.size (Nat.le_trans HBW.out.size HB2.out.size)) _)
          have HBW9 := Lib.hid hbW9
          have hpk : ck = (f, (k : Int)) := by
            rw [HCKP.out, idxCheck_at (by have := HN.out; have := HN64.out; omega) (by have := HN.out; omega) HOK.out (by rw [← HRD.out, ← HFX.out]; exact hf), ← HRD.out, ← HFX.out]
          subst hpk
          clear hrow2 hrow3 hbW9 hf
          go_wp2_with fail
          go_region
          all_goals
            go_wp2_with fail
            have hp1 := heap_setCell_same _ _ 0 _ _ (.int .i64 f) HROW3.out
            have hp2 := heap_setCell_same _ _ 1 _ _ (.int .i64 (k : Int)) hp1
            refine bodyPost_ret (results_tf rfl rfl hp2) rfl ⟨?_, fun h => absurd h HNF.out, fun _ => rfl⟩
            exact ((HBW9.out.setCell (p := ⟨rb, 0, none⟩) (by simp only; have := HRB.out; omega) _).setCell (p := ⟨rb, 1, none⟩) (by simp only; have := HRB.out; omega) _).drew
      · have hkn : k = n := by omega
        subst hkn
        have hGk : G.take k = G := by rw [List.take_of_length_le (by rw [HN.out]; exact Nat.le_refl _)]
        have hst := HST.out
        rw [hGk] at hst
        obtain ⟨xa, xc, hxv, hxi⟩ := OwnX.is hst.x
        have hbl : (boxesR G).length = k := by unfold boxesR; rw [List.length_map, HN.out]
        have hck : ck = (0, 0) := by
          rw [HCKP.out]
          exact idxCheck_ok (by have := HN.out; have := HN64.out; omega) (fun i hi => HOK.out i (by have := HN.out; omega))
        subst hck
        rw [hbl] at hxv hxi
        subst hxv
        have HBT := Lib.hid (BuildT_any xa k xc (boxesR G) wr hxi (boxes_in fun i hi => HOK.out i (by have := HN.out; omega)))
        unfold BuildR at HBT
        rw [hbl] at HBT
        have HSTG := Lib.hid hst
        have hxx := HN64.out
        clear hGk hst hxi hbl HST
        go_wp2_with fail
        refine HBT.out.mono ?_
        rintro e w5 ⟨_, h6, hb5⟩
        obtain ⟨tg, rfl, htr, _⟩ := h6 (by omega)
        have HT5 := Lib.hid htr
        have HS5 := Lib.hid (HSTG.out.later hb5)
        have HGE : Hid (g + 1 ≤ wr.heap.size) := Lib.hid (heap_lt' HSTG.out.row)
        clear h6 hb5 htr
        have c2 : w5.cell? ⟨g, 2, none⟩ = some (.pointer none) := cell_of_row _ _ _ _ _ _ HS5.out.row
        have f2 : w5.frozen? ⟨g, 2, none⟩ = false := frozen_of_row _ _ 2 _ _ HS5.out.row
        have hrbg : rb < g := by have := HRB.out; have := HGW.out.2.2; have := heap_lt' HR0.out; omega
        have hr5 := (HS5.out.below.block rb hrbg).trans HRZ.out
        have hr6 : (w5.setCell ⟨g, 2, none⟩ (.pointer (some ⟨tg, 0, none⟩))).heap[rb]? = some (.cells #[.int .i64 0, .int .i64 0] 35 (0, 0)) := (Below.heap_setCell _ _ _ _ (by simp only; omega)).trans hr5
        have d0 : (w5.setCell ⟨g, 2, none⟩ (.pointer (some ⟨tg, 0, none⟩))).cell? ⟨rb, 0, none⟩ = some (.int .i64 0) := cell_of_row _ _ _ _ _ _ hr6
        have d1 : (w5.setCell ⟨g, 2, none⟩ (.pointer (some ⟨tg, 0, none⟩))).cell? ⟨rb, 1, none⟩ = some (.int .i64 0) := cell_of_row _ _ _ _ _ _ hr6
        have g0 : (w5.setCell ⟨g, 2, none⟩ (.pointer (some ⟨tg, 0, none⟩))).frozen? ⟨rb, 0, none⟩ = false := frozen_of_row _ _ 0 _ _ hr6
        have g1 : (w5.setCell ⟨g, 2, none⟩ (.pointer (some ⟨tg, 0, none⟩))).frozen? ⟨rb, 1, none⟩ = false := frozen_of_row _ _ 1 _ _ hr6
        have HR6 := Lib.hid hr6
        have HRBG := Lib.hid hrbg
        clear hr5 hr6 hrbg
        go_wp2_with fail
        have hp1 := heap_setCell_same _ _ 0 _ _ (.int .i64 0) HR6.out
        have hp2 := heap_setCell_same _ _ 1 _ _ (.int .i64 0) hp1
        refine bodyPost_ret (results_tf rfl rfl hp2) rfl ⟨?_, g, rfl, og, sg, ?_⟩
        · have hb : Below w.heap.size w w5 := (HB0.out.trans (HBZ.out.mono HB0.out.size)).trans (HS5.out.below.mono (by have := HRB.out; have := HRBG.out; omega))
          exact ((hb.setCell (p := ⟨g, 2, none⟩) (by simp only; have := HRB.out; have := HRBG.out; omega) _).setCell (p := ⟨rb, 0, none⟩) (by simp only; have := HRB.out; omega) _).setCell (p := ⟨rb, 1, none⟩) (by simp only; have := HRB.out; omega) _
        · obtain ⟨⟨m1, m2, m3, m4⟩, m5, m6, m7⟩ := HNEW.out
          exact idx_made HS5.out HT5.out HGE.out m3 m4 m1 m2 m5 m6 HRBG.out HN.out.symm HN64.out (by have := HRB.out; have := HB0.out.size; omega) (by have := HRB.out; have := heap_lt' HR0.out; omega) (fun i hi => HOK.out i (by have := HN.out; omega))
end Go.Proofs.YtjiiikeniocmfaaGreat
