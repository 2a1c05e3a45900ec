/- boxtree: a part is laid: its frame, its node; the plain law of a part -/
import Derived.Test.YtjiiikeniocmfaaGreatMBPart0
set_option linter.unusedSimpArgs false
set_option linter.unusedVariables false
namespace Go.Proofs.YtjiiikeniocmfaaGreat
open Go.RowKit Go.Geo
/-- the boxes of a call's own. -/
structure Frm (tb ab g : Nat) (ac : Bool) (w : World) : Prop where
  t : w.heap[tb]? = some (.cells #[.pointer (some ⟨g, 0, none⟩)] 53 (0, 0))
  a : w.heap[ab]? = some (.cells #[.bool ac] 4 (0, 0))
theorem Frm.t0 {tb ab g : Nat} {ac : Bool} {w : World} (h : Frm tb ab g ac w) : w.cell? ⟨tb, 0, none⟩ = some (.pointer (some ⟨g, 0, none⟩)) := cell_of_row _ _ _ _ _ _ h.t
theorem Frm.a0 {tb ab g : Nat} {ac : Bool} {w : World} (h : Frm tb ab g ac w) : w.cell? ⟨ab, 0, none⟩ = some (.bool ac) := cell_of_row _ _ _ _ _ _ h.a
theorem Frm.later {tb ab g : Nat} {ac : Bool} {w w' : World} (h : Frm tb ab g ac w) (hb : Below w.heap.size w w') : Frm tb ab g ac w' := ⟨(hb.block _ (heap_lt2 h.t)).trans h.t, (hb.block _ (heap_lt2 h.a)).trans h.a⟩
theorem Frm.kp {tb ab g : Nat} {ac : Bool} {W w : World} {B : Nat} {lv ov nv nv' : Value} {L : List Bx} {O : List Int} {N : List Nd} (h : Frm tb ab g ac W) (hm : TMem B W g lv ov nv L O N) (hk : Kp g ov nv nv' W w) : Frm tb ab g ac w :=
  ⟨hk.typed hm h.t (by decide) (by decide) (by decide), hk.typed hm h.a (by decide) (by decide) (by decide)⟩
theorem Frm.grown {tb ab g : Nat} {ac : Bool} {w w' : World} {B : Nat} {lv ov nv : Value} {L : List Bx} {O : List Int} {N : List Nd} (h : Frm tb ab g ac w) (ho : TOwn B w g lv ov nv L O N) (hg : w.grownBy w' nv.ownBlock) : Frm tb ab g ac w' :=
  ⟨(hg.block _ (heap_lt2 h.t) (fun e => own_typed ho.n h.t (by decide) e.symm)).trans h.t, (hg.block _ (heap_lt2 h.a) (fun e => own_typed ho.n h.a (by decide) e.symm)).trans h.a⟩
theorem Frm.set {tb ab g o : Nat} {ac : Bool} {w : World} {lv ov nv u : Value} (h : Frm tb ab g ac w) (hr : TreeRow w g lv ov nv) : Frm tb ab g ac (w.setCell ⟨g, o, none⟩ u) := by
  have hk : ∀ k, k ≠ g → (w.setCell ⟨g, o, none⟩ u).heap[k]? = w.heap[k]? := fun k hk => Below.heap_setCell _ _ _ _ hk
  have hne : ∀ {k t : Nat} {c : Array Value}, w.heap[k]? = some (.cells c t (0, 0)) → t ≠ 88 → k ≠ g := fun {k t c} h1 h2 e => by
    subst e
    rw [hr] at h1
    injection h1 with h1
    injection h1 with _ e
    exact h2 e.symm
  exact ⟨(hk _ (hne h.t (by decide))).trans h.t, (hk _ (hne h.a (by decide))).trans h.a⟩
theorem own_cellN {w : World} {B nb n nc i o : Nat} {N : List Nd} (h : OwnN w B (.slice (some ⟨nb, 0, none⟩) n nc) N) (hi : i < N.length) (ho : o < 6) : ∃ v, w.cell? ⟨nb, i * 6 + o, none⟩ = some v ∧ w.frozen? ⟨nb, i * 6 + o, none⟩ = false := by
  rcases h.2 with ⟨e, _⟩ | ⟨g, cap, cur, e, _, hg, hn, hm, hs, _⟩
  · cases e
  · injection e with e _ _
    injection e with e
    injection e with e
    subst e
    have hl : i * 6 + o < cur.size := by rw [hs]; omega
    exact ⟨cur[i * 6 + o], (cell_of_row _ _ _ _ _ _ hg).trans (Array.getElem?_eq_getElem hl), frozen_of_row _ _ _ _ _ hg⟩
/-- a node, cell by cell. -/
def put6 (w : World) (g i : Nat) (e : Nd) : World := (((((w.setCell ⟨g, i * 6, none⟩ (.int .i64 (e.from_ : Int))).setCell ⟨g, i * 6 + 1, none⟩ (.int .i64 (e.to_ : Int))).setCell ⟨g, i * 6 + 2, none⟩ (.int .i64 e.all.1.x)).setCell ⟨g, i * 6 + 3, none⟩ (.int .i64 e.all.1.y)).setCell ⟨g, i * 6 + 4, none⟩ (.int .i64 e.all.2.x)).setCell ⟨g, i * 6 + 5, none⟩ (.int .i64 e.all.2.y)
theorem put6_other (w : World) (g i : Nat) (e : Nd) {k : Nat} (hk : k ≠ g) : (put6 w g i e).heap[k]? = w.heap[k]? := by
  unfold put6
  have h := fun (w : World) (o : Nat) (v : Value) => (Below.heap_setCell w ⟨g, o, none⟩ v k hk : (w.setCell ⟨g, o, none⟩ v).heap[k]? = w.heap[k]?)
  rw [h, h, h, h, h, h]
theorem TMem.putN {B g nb m nc i : Nat} {w : World} {lv ov nv : Value} {L : List Bx} {O : List Int} {N : List Nd} (h : TMem B w g lv ov nv L O N) (hv : nv = .slice (some ⟨nb, 0, none⟩) m nc) (hi : i < N.length) (hm : N.length = m) (e : Nd) : TMem B (put6 w nb i e) g lv ov nv L O (N.set i e) := by
  subst hm
  have hnb : nv.ownBlock = some nb := by rw [hv]; rfl
  obtain ⟨hr, hl, ho, hn, hlow⟩ := h
  have hgn : g ≠ nb := fun e => by subst e; exact own_typed hn hr (by decide) hnb
  refine ⟨(put6_other w nb i e hgn).trans hr, ownsRow_move hl fun k hk => put6_other w nb i e fun e2 => ?_, ownsRow_move ho fun k hk => put6_other w nb i e fun e2 => ?_, ?_, hlow⟩
  · subst e2; exact own_ne (by decide) hl hn hk hnb
  · subst e2; exact own_ne (by decide) ho hn hk hnb
  · rw [hv] at hn ⊢
    exact hn.put hi e
theorem Kp.put {g : Nat} {ov n0 nv : Value} {W w w' : World} {nb m nc : Nat} (h : Kp g ov n0 nv W w) (hv : nv = .slice (some ⟨nb, 0, none⟩) m nc) (hs : w'.os = w.os ∧ w'.tape = w.tape ∧ w'.output = w.output ∧ w.heap.size ≤ w'.heap.size) (ho : ∀ k, k ≠ nb → w'.heap[k]? = w.heap[k]?) : Kp g ov n0 nv W w' := by
  refine ⟨hs.1.trans h.os, hs.2.1.trans h.tape, hs.2.2.1.trans h.output, Nat.le_trans h.size hs.2.2.2, fun k hk hg h1 h2 => (ho k fun e => ?_).trans (h.keep k hk hg h1 h2), h.fresh⟩
  subst e
  rcases h.fresh k (by rw [hv]; rfl) with h3 | h3
  · omega
  · exact h2 h3
theorem put6_keeps (w : World) (g i : Nat) (e : Nd) : (put6 w g i e).os = w.os ∧ (put6 w g i e).tape = w.tape ∧ (put6 w g i e).output = w.output ∧ w.heap.size ≤ (put6 w g i e).heap.size := by
  have hb : Below 0 w (put6 w g i e) := by
    unfold put6
    have h := fun {w1 : World} (hb : Below 0 w w1) (o : Nat) (v : Value) => hb.setCell (p := ⟨g, o, none⟩) (Nat.zero_le _) v
    exact h (h (h (h (h (h (Below.refl _ _) _ _) _ _) _ _) _ _) _ _) _ _
  exact ⟨hb.os, hb.tape, hb.output, hb.size⟩
theorem Frm.putN {tb ab g nb m nc i : Nat} {ac : Bool} {w : World} {B : Nat} {lv ov nv : Value} {L : List Bx} {O : List Int} {N : List Nd} (h : Frm tb ab g ac w) (hm : TMem B w g lv ov nv L O N) (hv : nv = .slice (some ⟨nb, 0, none⟩) m nc) (e : Nd) : Frm tb ab g ac (put6 w nb i e) := by
  have hnb : nv.ownBlock = some nb := by rw [hv]; rfl
  refine ⟨(put6_other w nb i e fun e2 => ?_).trans h.t, (put6_other w nb i e fun e2 => ?_).trans h.a⟩
  · subst e2; exact own_typed hm.own.n h.t (by decide) hnb
  · subst e2; exact own_typed hm.own.n h.a (by decide) hnb
/-- the stages of 't.nodes[i] = node{from, to, t.around(from, to)}'. -/
def StA (W : World) (B g : Nat) (lv ov nv n0 : Value) (L : List Bx) (O : List Int) (N : List Nd) (i f t : Nat) (C : World → Prop) : List Value → World → Prop
  | [], w => TMem B w g lv ov nv L O N ∧ Kp g ov n0 nv W w ∧ C w
  | [a], w => TMem B w g lv ov nv L O N ∧ Kp g ov n0 nv W w ∧ C w ∧ ∃ b : Bx, a = boxV b.1 b.2 ∧ Around L (seg O f t) b ∧ (t = f + 1 → b = bxI L (O.getD f 0))
  | [_, c], w => TMem B w g lv ov nv L O N ∧ Kp g ov n0 nv W w ∧ C w ∧ ∃ b : Bx, c = valN ⟨f, t, b⟩ ∧ Around L (seg O f t) b ∧ (t = f + 1 → b = bxI L (O.getD f 0))
  | [_, _, _], w => ∃ b : Bx, TMem B w g lv ov nv L O (N.set i ⟨f, t, b⟩) ∧ Kp g ov n0 nv W w ∧ C w ∧ Around L (seg O f t) b ∧ (t = f + 1 → b = bxI L (O.getD f 0))
  | _, _ => False
/-- what is asked of a part. -/
structure PPre (B g : Nat) (lv ov : Value) (L : List Bx) (i f t : Nat) (w : World) (O : List Int) (N : List Nd) (nv : Value) : Prop where
  lt : f < t
  le : t ≤ O.length
  mem : TMem B w g lv ov nv L O N
  nodup : O.Nodup
  idx : ∀ x ∈ O, 0 ≤ x ∧ x < L.length
  few : O.length ≤ 1000
  small : N.length ≤ 5000
  at_ : i ≤ 4000
  deep : (i + 2) * (t - f - 1) ≤ 2000
structure PPost (B g : Nat) (lv ov nv : Value) (L : List Bx) (ac : Bool) (i f t : Nat) (O : List Int) (N : List Nd) (w w' : World) (O' : List Int) (N' : List Nd) (nv' : Value) : Prop where
  mem : TMem B w' g lv ov nv' L O' N'
  kp : Kp g ov nv nv' w w'
  perm : O'.Perm O
  out : ∀ k, ¬ (f ≤ k ∧ k < t) → O'.getD k 0 = O.getD k 0
  laid : Laid L ac (seg O f t) (seg O' f t)
  tree : TreeAt L N' O' i f t
  keepN : ∀ j, ¬ Desc i j → j < N.length → N'[j]? = N[j]?
  more : N.length ≤ N'.length
  small : N'.length ≤ 5000
def PartR (B g : Nat) (lv ov nv : Value) (L : List Bx) (ac : Bool) (i f t : Nat) (O : List Int) (N : List Nd) (w : World) (e : Ending) (w' : World) : Prop := ∃ O' N' nv', e = .returned (.tuple #[]) ∧ PPost B g lv ov nv L ac i f t O N w w' O' N' nv'
theorem TMem.but {B g og oc no : Nat} {w w' : World} {lv ov nv : Value} {L : List Bx} {O O1 : List Int} {N : List Nd} (h : TMem B w g lv ov nv L O N) (hov : ov = .slice (some ⟨og, 0, none⟩) no oc) (hb : But og w w') (ho : OwnI w' B ov O1) : TMem B w' g lv ov nv L O1 N := by
  have hob : ov.ownBlock = some og := by rw [hov]; rfl
  obtain ⟨hr, hl, ho0, hn, hlow⟩ := h
  refine ⟨hr.but hb fun e => ?_, ownsRow_move hl fun k hk => hb.block k (own_ltB hl hk).2 fun e => ?_, ho, ownsRow_move hn fun k hk => hb.block k (own_ltB hn hk).2 fun e => ?_, hlow⟩
  · subst e; exact own_typed ho0 hr (by decide) hob
  · subst e; exact own_ne (by decide) hl ho0 hk hob
  · subst e; exact own_ne (by decide) hn ho0 hk hob
theorem Kp.but {g og oc no : Nat} {W w w' : World} {ov nv n1 : Value} (h : Kp g ov nv n1 W w) (hov : ov = .slice (some ⟨og, 0, none⟩) no oc) (hb : But og w w') : Kp g ov nv n1 W w' :=
  ⟨hb.os.trans h.os, hb.tape.trans h.tape, hb.output.trans h.output, Nat.le_trans h.size hb.size, fun k hk hg ho hn => (hb.block k (Nat.lt_of_lt_of_le hk h.size) fun e => ho (by rw [hov, e]; rfl)).trans (h.keep k hk hg ho hn), h.fresh⟩
theorem Frm.but {tb ab g og oc no : Nat} {ac : Bool} {w w' : World} {B : Nat} {lv ov nv : Value} {L : List Bx} {O : List Int} {N : List Nd} (h : Frm tb ab g ac w) (hm : TMem B w g lv ov nv L O N) (hov : ov = .slice (some ⟨og, 0, none⟩) no oc) (hb : But og w w') : Frm tb ab g ac w' := by
  have hob : ov.ownBlock = some og := by rw [hov]; rfl
  refine ⟨(hb.block _ (heap_lt2 h.t) fun e => ?_).trans h.t, (hb.block _ (heap_lt2 h.a) fun e => ?_).trans h.a⟩
  · subst e; exact own_typed hm.own.o h.t (by decide) hob
  · subst e; exact own_typed hm.own.o h.a (by decide) hob
theorem deep_half {i d : Nat} (hd : 2 ≤ d) (h : (i + 2) * (d - 1) ≤ 2000) : i + 2 ≤ 2000 ∧ (2 * i + 1 + 2) * (halfN d - 1) ≤ 2000 ∧ (2 * i + 2 + 2) * (d - halfN d - 1) ≤ 2000 := by
  have hm := halfN_bounds hd
  have hh : 2 * (halfN d - 1) ≤ d - 1 := by unfold halfN; omega
  have hh2 : 2 * (d - halfN d - 1) ≤ d - 1 := by unfold halfN; omega
  have h1 : (i + 2) * 1 ≤ (i + 2) * (d - 1) := Nat.mul_le_mul_left _ (by omega)
  have h2 : (2 * i + 1 + 2) * (halfN d - 1) ≤ (i + 2) * (2 * (halfN d - 1)) := by
    rw [← Nat.mul_assoc]
    exact Nat.mul_le_mul_right _ (by omega)
  have h3 : (2 * i + 2 + 2) * (d - halfN d - 1) ≤ (i + 2) * (2 * (d - halfN d - 1)) := by
    rw [← Nat.mul_assoc]
    exact Nat.mul_le_mul_right _ (by omega)
  have h4 := Nat.mul_le_mul_left (i + 2) hh
  have h5 := Nat.mul_le_mul_left (i + 2) hh2
  omega
/-- how the two parts of a part make the whole. -/
theorem part_join {L : List Bx} {ac : Bool} {O S O2 O3 : List Int} {N1 N2 N3 : List Nd} {i f t : Nat} {b : Bx} (hft : f + 2 ≤ t) (ht : t ≤ O.length) (hp : S.Perm (seg O f t)) (hs : S.Pairwise (ltI L ac))
    (hn : N1[i]? = some ⟨f, t, b⟩) (hb : Around L (seg O f t) b)
    (p2 : O2.Perm (putSeg O f t S)) (out2 : ∀ k, ¬ (f ≤ k ∧ k < f + halfN (t - f)) → O2.getD k 0 = (putSeg O f t S).getD k 0) (l2 : Laid L (!ac) (seg (putSeg O f t S) f (f + halfN (t - f))) (seg O2 f (f + halfN (t - f)))) (t2 : TreeAt L N2 O2 (2 * i + 1) f (f + halfN (t - f))) (k2 : ∀ j, ¬ Desc (2 * i + 1) j → j < N1.length → N2[j]? = N1[j]?) (m2 : N1.length ≤ N2.length)
    (p3 : O3.Perm O2) (out3 : ∀ k, ¬ (f + halfN (t - f) ≤ k ∧ k < t) → O3.getD k 0 = O2.getD k 0) (l3 : Laid L (!ac) (seg O2 (f + halfN (t - f)) t) (seg O3 (f + halfN (t - f)) t)) (t3 : TreeAt L N3 O3 (2 * i + 2) (f + halfN (t - f)) t) (k3 : ∀ j, ¬ Desc (2 * i + 2) j → j < N2.length → N3[j]? = N2[j]?) :
    O3.Perm O ∧ (∀ k, ¬ (f ≤ k ∧ k < t) → O3.getD k 0 = O.getD k 0) ∧ Laid L ac (seg O f t) (seg O3 f t) ∧ TreeAt L N3 O3 i f t ∧ ∀ j, ¬ Desc i j → j < N1.length → N3[j]? = N1[j]? := by
  have hm := halfN_bounds (n := t - f) (by omega)
  have hSl : S.length = t - f := by rw [hp.length_eq, seg_length ht]
  have hmS : halfN (t - f) = halfN S.length := by rw [hSl]
  have hl1 := putSeg_len (O := O) (S := S) (f := f) (t := t) (by omega) ht hSl
  have hl2 := p2.length_eq
  have hl3 := p3.length_eq
  have hg := putSeg_get (O := O) (S := S) (f := f) (t := t) (by omega) ht hSl
  have hsg := putSeg_seg (O := O) (S := S) (f := f) (t := t) (by omega) ht hSl
  have hpO := putSeg_perm (O := O) (S := S) (f := f) (t := t) (by omega) hp
  generalize putSeg O f t S = O1 at *
  obtain ⟨m, hme⟩ : ∃ m, f + halfN (t - f) = m := ⟨_, rfl⟩
  have hmS2 : m - f = halfN S.length := by omega
  rw [hme] at out2 l2 t2 out3 l3 t3
  have e1 : seg O1 f m = S.take (halfN S.length) := by
    rw [← hmS2]
    have h := seg_cut (O := O1) (f := f) (m := m) (t := t) (by omega) (by omega)
    rw [hsg] at h
    conv => rhs; rw [h]
    rw [List.take_left' (by rw [seg_length (by omega)])]
  have e2 : seg O1 m t = S.drop (halfN S.length) := by
    rw [← hmS2]
    have h := seg_cut (O := O1) (f := f) (m := m) (t := t) (by omega) (by omega)
    rw [hsg] at h
    conv => rhs; rw [h]
    rw [List.drop_left' (by rw [seg_length (by omega)])]
  have e3 : seg O2 m t = seg O1 m t := seg_congr (by omega) fun k h1 h2 => out2 k (by omega)
  have e4 : seg O3 f m = seg O2 f m := seg_congr (by omega) fun k h1 h2 => out3 k (by omega)
  have hlaid : Laid L ac (seg O f t) (seg O3 f t) := by
    rw [seg_cut (O := O3) (f := f) (m := m) (t := t) (by omega) (by omega), e4]
    refine .cut (by rw [seg_length ht]; omega) hp hs (by rw [← e1]; exact l2) (by rw [← e2, ← e3]; exact l3)
  refine ⟨(p3.trans p2).trans hpO, fun k hk => ?_, hlaid, ?_, fun j hj hlt => ?_⟩
  · rw [out3 k (by omega), out2 k (by omega), hg, if_neg hk]
  · have hi1 : i < N1.length := (List.getElem?_eq_some_iff.1 hn).1
    have nd1 : ¬ Desc (2 * i + 1) i := fun h => by have := h.ge; omega
    have nd2 : ¬ Desc (2 * i + 2) i := fun h => by have := h.ge; omega
    refine .node (b := b) hft ?_ ?_ ?_ ?_
    · rw [k3 i nd2 (by omega), k2 i nd1 hi1]; exact hn
    · intro x hx
      exact hb x (hlaid.perm.mem_iff.1 hx)
    · rw [hme]
      exact t2.keep (by omega) (fun j hj hl => k3 j (fun h => hj.apart h) hl) fun k h1 h2 => out3 k (by omega)
    · rw [hme]; exact t3
  · have h1 : ¬ Desc (2 * i + 1) j := fun h => hj (.left h)
    have h2 : ¬ Desc (2 * i + 2) j := fun h => hj (.right h)
    rw [k3 j h2 (by omega), k2 j h1 hlt]
end Go.Proofs.YtjiiikeniocmfaaGreat
