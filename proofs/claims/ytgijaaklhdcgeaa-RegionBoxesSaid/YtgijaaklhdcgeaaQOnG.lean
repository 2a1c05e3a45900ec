/- cross.on, cross.gather -/
import Derived.Test.YtgijaaklhdcgeaaQCont
import Derived.Maps.AppendAt
set_option linter.unusedSimpArgs false
set_option linter.unusedVariables false
namespace Go.Proofs.Ytgijaaklhdcgeaa
open Go.RowKit Go.Geo
theorem pt1 (w : World) (a : Pt) : IsPts (w.alloc (.cells #[.int .i64 a.x, .int .i64 a.y] 27)) (some ⟨w.heap.size, 0, none⟩) 1 1 [a] := by
  refine ⟨rfl, Nat.le_refl _, by unfold maxLen; omega, fun _ => ⟨_, _, rfl, fun i hi => ?_⟩, fun h => by cases h⟩
  have h := alloc_new w (.cells #[.int .i64 a.x, .int .i64 a.y] 27)
  match i, hi with
  | 0, _ => exact ⟨cell_of_row _ _ _ _ _ _ h, cell_of_row _ _ _ _ _ _ h⟩
theorem OwnP.nil (w : World) (base : Nat) : OwnP w base (.slice none 0 0) [] := World.ownsRow_nil _ _ _ _
theorem filter_take {α : Type} {f : α → Bool} {l : List α} {d : α} {k : Nat} (h : k < l.length) : (l.take (k + 1)).filter f = (l.take k).filter f ++ (if f (l.getD k d) then [l.getD k d] else []) := by
  rw [take_more (d := d) h, List.filter_append]
  congr 1
  generalize l.getD k d = x
  cases hq : f x <;> simp [List.filter, hq]
theorem gatherP_append : ∀ (l m out : List Pt), gatherP out (l ++ m) = gatherP (gatherP out l) m
  | [], m, out => rfl
  | p :: l, m, out => by rw [List.cons_append, gatherP, gatherP, gatherP_append l m]
theorem gatherP_take {L S : List Pt} {k : Nat} (h : k < S.length) : gatherP L (S.take (k + 1)) = if S.getD k p0 ∈ gatherP L (S.take k) then gatherP L (S.take k) else gatherP L (S.take k) ++ [S.getD k p0] := by
  rw [take_more (d := p0) h, gatherP_append]
  rfl
theorem IsPts.block {w w' : World} {b off n cap : Nat} {P : List Pt} (h : IsPts w (some ⟨b, off, none⟩) n cap P) (hb : w'.heap[b]? = w.heap[b]?) : IsPts w' (some ⟨b, off, none⟩) n cap P := by
  obtain ⟨h1, h2, h3, h4, h5⟩ := h
  refine ⟨h1, h2, h3, fun hn => ?_, h5⟩
  obtain ⟨b', off', e, hc⟩ := h4 hn
  cases e
  refine ⟨b, off, rfl, fun i hi => ?_⟩
  obtain ⟨e0, e1⟩ := hc i hi
  exact ⟨(World.cell?_of_block (a := ⟨b, off + i * 2, none⟩) hb).trans e0, (World.cell?_of_block (a := ⟨b, off + i * 2 + 1, none⟩) hb).trans e1⟩
theorem wpList_append_pts_at {w : World} {ops : Array Oper} {rest : List Oper} {o : Oper} {a : Act} {Q : Exit → Act → World → Prop} (hgd : o.guard = none) (s x : Operand)
    (ho : o.op = .call { callee := .builtin .append, args := #[s, x], argTypes := #[28, 28] })
    (base : Nat) (v : Value) (L : List Pt) (hs : a.eval s = v) (hown : OwnP w base v L)
    (ad : Addr) (m c : Nat) (L2 : List Pt) (hx : a.eval x = .slice (some ad) m c) (hsrc : IsPts w (some ad) m c L2) (hnm : L.length + m ≤ 1000000000) (hbase : base ≤ w.heap.size)
    (h : ∀ v' w', OwnP w' base v' (L ++ L2) → w.grownBy w' v.ownBlock → (v'.ownBlock = v.ownBlock ∨ v'.ownBlock = some w.heap.size) → wpList Try.prog ops Q rest (a.put o.dst v') w') : wpList Try.prog ops Q (o :: rest) a w := by
  obtain ⟨i0, hi, hz0, hz1, hz2⟩ := info_parts' Try.infoPt
  have hl := hsrc.1
  obtain ⟨b, off, spot⟩ := ad
  refine wpList_append_own_at (P := Try.prog) w hgd s x 28 ho base _ i0 (.agg #[.int .i64 0, .int .i64 0]) 2 16 Try.underlying28 hi hz0 hz1 hz2 rfl (by decide) v _ _ hs hown ⟨b, off, spot⟩ m c (flatP L2) hx (by rw [flatP_length, hl]) hsrc.cells (flatP_one _)
      (by unfold maxLen; omega) (by omega) hbase (fun v' w' h1 h2 _ h4 => h v' w' ?_ h2 h4)
  unfold OwnP
  rw [flatP_append, List.length_append, hl]
  exact h1
set_option maxRecDepth 100000 in
set_option maxHeartbeats 1000000 in
theorem on_any (a b : Pt) (ao : Option Addr) (n cap : Nat) (S : List Pt) (w : World) (h : IsPts w ao n cap S) (hn : n ≤ 1000) :
    Calls Try.prog 106 #[ptV a, ptV b, .slice ao n cap] w fun e w' => ∃ v, e = .returned v ∧ OwnP w' w.heap.size v (S.filter fun p => onP p a b) ∧ Below w.heap.size w w' := by
  have HI := Lib.hid h
  have HL : Hid (S.length = n) := h.1
  have hcm := h.2.2.1
  have hnc := h.2.1
  unfold maxLen at hcm
  have HON : Hid (∀ p w, Calls Try.prog 84 #[ptV p, ptV a, ptV b] w fun e w' => e = .returned (.bool (onP p a b)) ∧ Grew w w') := Lib.hid (fun p w => On_any p a b w)
  obtain ⟨f, hf⟩ : ∃ f : Pt → Bool, f = fun p => onP p a b := ⟨_, rfl⟩
  have HON : Hid (∀ p w, Calls Try.prog 84 #[ptV p, ptV a, ptV b] w fun e w' => e = .returned (.bool (f p)) ∧ Grew w w') := by rw [hf]; exact HON
  rw [← hf]
  clear h hf
  obtain ⟨ax, ay⟩ := a
  obtain ⟨bx, bY⟩ := b
  unfold ptV at *
  dsimp only at HON ⊢
  obtain ⟨W2, hW2⟩ : ∃ W, W = (w.alloc (.cells #[.int .i64 ax, .int .i64 ay] 27)).alloc (.cells #[.int .i64 bx, .int .i64 bY] 27) := ⟨_, rfl⟩
  have hsz : W2.heap.size = w.heap.size + 2 := by rw [hW2]; simp
  have HB : Hid (Below w.heap.size w W2) := Lib.hid (by rw [hW2]; exact ((Below.refl _ _).alloc (Nat.le_refl _) _).alloc (by simp) _)
  have HC : Hid ((W2.cell? ⟨w.heap.size, 0, none⟩ = some (.int .i64 ax) ∧ W2.cell? ⟨w.heap.size, 1, none⟩ = some (.int .i64 ay)) ∧ (W2.cell? ⟨w.heap.size + 1, 0, none⟩ = some (.int .i64 bx) ∧ W2.cell? ⟨w.heap.size + 1, 1, none⟩ = some (.int .i64 bY))) := Lib.hid (by
    rw [hW2]
    exact ⟨⟨((Grew.refl _).alloc _).cell (cell_of_row _ _ _ _ _ _ (alloc_new w _)), ((Grew.refl _).alloc _).cell (cell_of_row _ _ _ _ _ _ (alloc_new w _))⟩, cell_of_row _ _ _ _ _ _ (alloc_new2 w _ _), cell_of_row _ _ _ _ _ _ (alloc_new2 w _ _)⟩)
  have HW := Lib.hid hW2
  have HZ := Lib.hid hsz
  go_enter Try.func106, Try.ntmps106
  go_wp2
  rw [← hW2]
  clear hW2 hsz
  go_loopw [7, 12] (fun v i wr => ∃ k : Nat, k ≤ n ∧ i = .int .i64 k ∧ Hid (OwnP wr W2.heap.size v ((S.take k).filter f)) ∧ Hid (Below W2.heap.size W2 wr)) (fun _ i _ => n - (intOf i).toNat)
  case atStart => exact ⟨0, by omega, rfl, OwnP.nil _ _, Below.refl _ _⟩
  case round =>
    obtain ⟨k, hk, rfl, hown, hbl⟩ := hrel
    by_cases hlt : k < n
    · have hi0 : (0 : Int) ≤ (k : Int) := by omega
      have hi5 : (k : Int) < (n : Int) := by omega
      obtain ⟨b2, off2, rfl, e0, e1⟩ := ((HI.out.later HB.out (Nat.le_refl _)).later hbl.out (Nat.le_refl _)).at hlt
      obtain ⟨c, hc⟩ : ∃ c, c = S.getD k p0 := ⟨_, rfl⟩
      rw [← hc] at e0 e1
      have HT : Hid ((S.take (k + 1)).filter f = (S.take k).filter f ++ (if f c then [c] else [])) := Lib.hid (by rw [hc]; exact filter_take (by rw [HL.out]; exact hlt))
      have HF : Hid (((S.take k).filter f).length ≤ 1000) := Lib.hid (by
        have := List.length_filter_le f (S.take k)
        rw [List.length_take] at this
        omega)
      have HO := Lib.hid (HON.out c)
      obtain ⟨q, hq⟩ : ∃ q, q = f c := ⟨_, rfl⟩
      rw [← hq] at HO HT
      have hal : Below wr.heap.size wr (wr.alloc (.cells #[.int .i64 c.x, .int .i64 c.y] 27)) := (Below.refl _ _).alloc (Nat.le_refl _) _
      have q0 : (wr.alloc (.cells #[.int .i64 c.x, .int .i64 c.y] 27)).cell? ⟨wr.heap.size, 0, none⟩ = some (.int .i64 c.x) := cell_of_row _ _ _ _ _ _ (alloc_new _ _)
      have q1 : (wr.alloc (.cells #[.int .i64 c.x, .int .i64 c.y] 27)).cell? ⟨wr.heap.size, 1, none⟩ = some (.int .i64 c.y) := cell_of_row _ _ _ _ _ _ (alloc_new _ _)
      have hW : Below W2.heap.size W2 (wr.alloc (.cells #[.int .i64 c.x, .int .i64 c.y] 27)) := hbl.out.alloc hbl.out.size _
      have lt0 : w.heap.size < W2.heap.size := by rw [HZ.out]; omega
      have lt1 : w.heap.size + 1 < W2.heap.size := by rw [HZ.out]; omega
      have a0 := (hW.cell (p := ⟨w.heap.size, 0, none⟩) lt0).trans HC.out.1.1
      have a1 := (hW.cell (p := ⟨w.heap.size, 1, none⟩) lt0).trans HC.out.1.2
      have b0 := (hW.cell (p := ⟨w.heap.size + 1, 0, none⟩) lt1).trans HC.out.2.1
      have b1 := (hW.cell (p := ⟨w.heap.size + 1, 1, none⟩) lt1).trans HC.out.2.2
      have HAL := Lib.hid (And.intro hal hW)
      have HQ := Lib.hid (And.intro q0 q1)
      clear hc hq hal hW lt0 lt1
      cases q with
      | true =>
        go_wp2_with fail
        refine (HO.out _).mono ?_
        rintro e w4 ⟨rfl, hg4⟩
        have q2 := hg4.cell q0
        have q3 := hg4.cell q1
        have HG4 := Lib.hid hg4
        clear hg4 q0 q1 a0 a1 b0 b1
        go_wp2_with (at_builtin; refine wpList_append_pts rfl _ _ rfl W2.heap.size _ ((S.take k).filter f) rfl (hown.out.later (HAL.out.1.trans ((HG4.out.1.mono HAL.out.1.size).trans (((Below.refl _ _).alloc (Nat.le_refl _) _).mono (Nat.le_trans HAL.out.1.size HG4.out.size))))) _ _ _ [c] rfl (pt1 w4 c) (by have := HF.out; omega) (Nat.le_trans HAL.out.2.size (Nat.le_trans HG4.out.size (by simp))) ?_
                     intro v5 w5 hown5 hg5
                     have hb5 : Below W2.heap.size W2 w5 := ((HAL.out.2.trans (HG4.out.1.mono HAL.out.2.size)).alloc (Nat.le_trans HAL.out.2.size HG4.out.size) _).grown hg5 (Nat.le_trans HAL.out.2.size (Nat.le_trans HG4.out.size (by simp))) (fun k hk => (hown.out.lt k hk).1)
                     have H5 := Lib.hid (And.intro hown5 hb5)
                     clear hown5 hg5 hb5)
        go_roundw
        case rel => exact ⟨k + 1, by omega, by go_num, by rw [HT.out]; exact H5.out.1, H5.out.2⟩
        case measure => simp [intOf]; omega
      | false =>
        go_wp2_with fail
        refine (HO.out _).mono ?_
        rintro e w4 ⟨rfl, hg4⟩
        have HG4 := Lib.hid hg4
        clear hg4 q0 q1 a0 a1 b0 b1
        go_wp2_with fail
        go_roundw
        case rel => exact ⟨k + 1, by omega, by go_num, by rw [HT.out, if_neg (by simp), List.append_nil]; exact hown.out.later (HAL.out.1.trans (HG4.out.1.mono HAL.out.1.size)), HAL.out.2.trans (HG4.out.1.mono HAL.out.2.size)⟩
        case measure => simp [intOf]; omega
    · obtain rfl : n = k := by omega
      go_wp2
      go_ret
      refine ⟨_, rfl, ?_, HB.out.trans (hbl.out.mono HB.out.size)⟩
      have := hown.out
      rw [List.take_of_length_le (by rw [HL.out]; exact Nat.le_refl _)] at this
      exact OwnP.base this HB.out.size
set_option maxRecDepth 100000 in
set_option maxHeartbeats 1000000 in
/-- those of S that out has not, behind it; S lies in a block of its own. -/
theorem gather_any (base : Nat) (v0 : Value) (L : List Pt) (ao : Option Addr) (n cap : Nat) (S : List Pt) (w : World) (h : IsPts w ao n cap S) (hn : n ≤ 1000) (hl : L.length ≤ 1000) (hown : OwnP w base v0 L) (hb : base ≤ w.heap.size)
    (hap : ∀ b off, ao = some ⟨b, off, none⟩ → v0.ownBlock ≠ some b) :
    Calls Try.prog 105 #[v0, .slice ao n cap] w fun e w' => ∃ v, e = .returned v ∧ OwnP w' base v (gatherP L S) ∧ Below base w w' := by
  have HI := Lib.hid h
  have HL : Hid (S.length = n) := h.1
  have hcm := h.2.2.1
  have hnc := h.2.1
  unfold maxLen at hcm
  have HO := Lib.hid hown
  have HBS := Lib.hid hb
  have HAP := Lib.hid hap
  have HLN := Lib.hid hl
  clear h hown hap hl
  obtain ⟨ai, cc, hv0, _⟩ := HO.out.pts
  subst hv0
  go_enter Try.func105, Try.ntmps105
  go_wp2
  go_loopw [0, 9] (fun v i wr => ∃ k : Nat, k ≤ n ∧ i = .int .i64 k ∧ Hid (OwnP wr base v (gatherP L (S.take k))) ∧ Hid (IsPts wr ao n cap S) ∧ Hid (Below base w wr) ∧ Hid ((gatherP L (S.take k)).length ≤ 1000 + k) ∧ Hid (∀ b off, ao = some ⟨b, off, none⟩ → v.ownBlock ≠ some b)) (fun _ i _ => n - (intOf i).toNat)
  case atStart => exact ⟨0, by omega, rfl, HO.out, HI.out, Below.refl _ _, HLN.out, HAP.out⟩
  case round =>
    obtain ⟨k, hk, rfl, hown, hsp, hbl, hln, hap⟩ := hrel
    obtain ⟨ai, cc, hv0, hpts⟩ := hown.out.pts
    obtain ⟨G, hG⟩ : ∃ G, G = gatherP L (S.take k) := ⟨_, rfl⟩
    rw [← hG] at hown hln hpts hv0
    have hgl := hln.out
    have hHG := Lib.hid hG
    subst hv0
    clear hG
    obtain ⟨m, hm⟩ : ∃ m, m = G.length := ⟨_, rfl⟩
    rw [← hm] at hown hap ⊢
    have hgl2 : m ≤ 1000 + k := by rw [hm]; exact hgl
    have HPT := Lib.hid hpts
    have HM := Lib.hid hm
    clear hm hgl hpts hln
    by_cases hlt : k < n
    · have hi0 : (0 : Int) ≤ (k : Int) := by omega
      have hi5 : (k : Int) < (n : Int) := by omega
      obtain ⟨b2, off2, rfl, e0, e1⟩ := hsp.out.at hlt
      obtain ⟨c, hc⟩ : ∃ c, c = S.getD k p0 := ⟨_, rfl⟩
      rw [← hc] at e0 e1
      have HT : Hid (gatherP L (S.take (k + 1)) = if c ∈ G then G else G ++ [c]) := Lib.hid (by rw [hc, hHG.out]; exact gatherP_take (by rw [HL.out]; exact hlt))
      have HCT := Lib.hid (fun W (hW : IsPts W ai m cc G) => Contains_any ai m cc G c W hW)
      obtain ⟨q, hq⟩ : ∃ q, q = decide (c ∈ G) := ⟨_, rfl⟩
      rw [← hq] at HCT
      have hal : Below wr.heap.size wr (wr.alloc (.cells #[.int .i64 c.x, .int .i64 c.y] 27)) := (Below.refl _ _).alloc (Nat.le_refl _) _
      have q0 : (wr.alloc (.cells #[.int .i64 c.x, .int .i64 c.y] 27)).cell? ⟨wr.heap.size, 0, none⟩ = some (.int .i64 c.x) := cell_of_row _ _ _ _ _ _ (alloc_new _ _)
      have q1 : (wr.alloc (.cells #[.int .i64 c.x, .int .i64 c.y] 27)).cell? ⟨wr.heap.size, 1, none⟩ = some (.int .i64 c.y) := cell_of_row _ _ _ _ _ _ (alloc_new _ _)
      have hbw : base ≤ wr.heap.size := Nat.le_trans HBS.out hbl.out.size
      have HAL := Lib.hid (And.intro hal hbw)
      have HQ := Lib.hid hq
      unfold ptV at HCT
      clear hc hq hal hbw
      cases q with
      | true =>
        go_wp2_with fail
        refine (HCT.out (wr.alloc (.cells #[.int .i64 c.x, .int .i64 c.y] 27)) (by rw [HM.out]; exact HPT.out.later HAL.out.1 (Nat.le_refl _))).mono ?_
        rintro e w4 ⟨rfl, hg4⟩
        have HG4 := Lib.hid hg4
        clear hg4 q0 q1
        go_wp2_with fail
        go_roundw
        case rel =>
          have hbb : Below wr.heap.size wr w4 := HAL.out.1.trans (HG4.out.1.mono HAL.out.1.size)
          refine ⟨k + 1, by omega, by go_num, ?_, hsp.out.later hbb (Nat.le_refl _), hbl.out.trans (hbb.mono HAL.out.2), ?_, hap.out⟩
          · rw [HT.out, if_pos (of_decide_eq_true HQ.out.symm)]
            rw [HM.out] at hown ⊢
            exact hown.out.later hbb
          · rw [HT.out, if_pos (of_decide_eq_true HQ.out.symm), ← HM.out]
            exact Lib.hid (by omega)
        case measure => simp [intOf]; omega
      | false =>
        go_wp2_with fail
        refine (HCT.out (wr.alloc (.cells #[.int .i64 c.x, .int .i64 c.y] 27)) (by rw [HM.out]; exact HPT.out.later HAL.out.1 (Nat.le_refl _))).mono ?_
        rintro e w4 ⟨rfl, hg4⟩
        have q2 := hg4.cell q0
        have q3 := hg4.cell q1
        have HG4 := Lib.hid hg4
        clear hg4 q0 q1
        have hbb : Below wr.heap.size wr w4 := HAL.out.1.trans (HG4.out.1.mono HAL.out.1.size)
        have hb5 : Below wr.heap.size wr (w4.alloc (.cells #[.int .i64 c.x, .int .i64 c.y] 27)) := hbb.alloc hbb.size _
        have HBB := Lib.hid hb5
        clear hbb hb5
        go_wp2_with (at_builtin; refine wpList_append_pts_at rfl _ _ rfl base _ G rfl (hown.out.later HBB.out) _ _ _ [c] rfl (pt1 w4 c) (by have := HM.out; omega) (Nat.le_trans HAL.out.2 HBB.out.size) ?_
                     intro v5 w5 hown5 hg5 hat5
                     have H5 := Lib.hid (And.intro hown5 (And.intro hg5 hat5))
                     clear hown5 hg5 hat5)
        go_roundw
        case rel =>
          have hg5 := H5.out.2.1
          have hgr : Below base w w5 := (hbl.out.trans (HBB.out.mono HAL.out.2)).grown hg5 (Nat.le_trans HAL.out.2 HBB.out.size) (fun k hk => (hown.out.lt k hk).1)
          refine ⟨k + 1, by omega, by go_num, ?_, ?_, hgr, ?_, ?_⟩
          · rw [HT.out, if_neg (of_decide_eq_false HQ.out.symm)]
            exact H5.out.1
          · have hsp2 := hsp.out.later HBB.out (Nat.le_refl _)
            exact Lib.hid (hsp2.block (hg5.block _ (Nat.lt_of_lt_of_le (block_lt_of_cell e0) HBB.out.size) (fun e => hap.out _ _ rfl e.symm)))
          · rw [HT.out, if_neg (of_decide_eq_false HQ.out.symm), List.length_append, ← HM.out]
            exact Lib.hid (by simp; omega)
          · refine Lib.hid (fun b off e => ?_)
            cases e
            have hlt2 := Nat.lt_of_lt_of_le (block_lt_of_cell e0) HBB.out.size
            have hne := hap.out _ _ rfl
            rcases H5.out.2.2 with h | h
            · rw [h]; exact hne
            · rw [h]
              intro e
              cases e
              exact Nat.lt_irrefl _ hlt2
        case measure => simp [intOf]; omega
    · obtain rfl : n = k := by omega
      go_wp2
      go_ret
      refine ⟨_, rfl, ?_, hbl.out⟩
      have := hHG.out
      rw [List.take_of_length_le (by rw [HL.out]; exact Nat.le_refl _)] at this
      rw [← this]
      exact hown.out
end Go.Proofs.Ytgijaaklhdcgeaa
