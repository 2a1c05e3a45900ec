/- cross.on, cross.gather -/
import Derived.Test.YtjiiikeniocmfaaGreatMQCont
import Derived.Maps.AppendAt
set_option linter.unusedSimpArgs false
set_option linter.unusedVariables false
namespace Go.Proofs.YtjiiikeniocmfaaGreat
open Go.RowKit Go.Geo
theorem pt1 (w : World) (a : Pt) : IsPts (w.alloc (.cells #[.int .i64 a.x, .int .i64 a.y] 24)) (some ⟨w.heap.size, 0, none⟩) 1 1 [a] := by
  refine ⟨rfl, Nat.le_refl _, by unfold maxLen; omega, fun _ => ⟨_, _, rfl, fun i hi => ?_⟩, fun h => by cases h⟩
  have h := alloc_new w (.cells #[.int .i64 a.x, .int .i64 a.y] 24)
  match i, hi with
  | 0, _ => exact ⟨cell_of_row _ _ _ _ _ _ h, cell_of_row _ _ _ _ _ _ h⟩
theorem OwnP.nil (w : World) (base : Nat) : OwnP w base (.slice none 0 0) [] := World.ownsRow_nil _ _ _ _
theorem filter_take {α : Type} {f : α → Bool} {l : List α} {d : α} {k : Nat} (h : k < l.length) : (l.take (k + 1)).filter f = (l.take k).filter f ++ (if f (l.getD k d) then [l.getD k d] else []) := by
  rw [take_more (d := d) h, List.filter_append]
  congr 1
  generalize l.getD k d = x
  cases hq : f x <;> simp [List.filter, hq]
theorem gatherP_append : ∀ (l m out : List Pt), gatherP out (l ++ m) = gatherP (gatherP out l) m
  | [], m, out => rfl
  | p :: l, m, out => by rw [List.cons_append, gatherP, gatherP, gatherP_append l m]
theorem gatherP_take {L S : List Pt} {k : Nat} (h : k < S.length) : gatherP L (S.take (k + 1)) = if S.getD k p0 ∈ gatherP L (S.take k) then gatherP L (S.take k) else gatherP L (S.take k) ++ [S.getD k p0] := by
  rw [take_more (d := p0) h, gatherP_append]
  rfl
theorem IsPts.block {w w' : World} {b off n cap : Nat} {P : List Pt} (h : IsPts w (some ⟨b, off, none⟩) n cap P) (hb : w'.heap[b]? = w.heap[b]?) : IsPts w' (some ⟨b, off, none⟩) n cap P := by
  obtain ⟨h1, h2, h3, h4, h5⟩ := h
  refine ⟨h1, h2, h3, fun hn => ?_, h5⟩
  obtain ⟨b', off', e, hc⟩ := h4 hn
  cases e
  refine ⟨b, off, rfl, fun i hi => ?_⟩
  obtain ⟨e0, e1⟩ := hc i hi
  exact ⟨(World.cell?_of_block (a := ⟨b, off + i * 2, none⟩) hb).trans e0, (World.cell?_of_block (a := ⟨b, off + i * 2 + 1, none⟩) hb).trans e1⟩
theorem wpList_append_pts_at {w : World} {ops : Array Oper} {rest : List Oper} {o : Oper} {a : Act} {Q : Exit → Act → World → Prop} (hgd : o.guard = none) (s x : Operand)
    (ho : o.op = .call { callee := .builtin .append, args := #[s, x], argTypes := #[40, 40] })
    (base : Nat) (v : Value) (L : List Pt) (hs : a.eval s = v) (hown : OwnP w base v L)
    (ad : Addr) (m c : Nat) (L2 : List Pt) (hx : a.eval x = .slice (some ad) m c) (hsrc : IsPts w (some ad) m c L2) (hnm : L.length + m ≤ 1000000000) (hbase : base ≤ w.heap.size)
    (h : ∀ v' w', OwnP w' base v' (L ++ L2) → w.grownBy w' v.ownBlock → (v'.ownBlock = v.ownBlock ∨ v'.ownBlock = some w.heap.size) → wpList Tryz.prog ops Q rest (a.put o.dst v') w') : wpList Tryz.prog ops Q (o :: rest) a w := by
  obtain ⟨i0, hi, hz0, hz1, hz2⟩ := info_parts' Tryz.infoPt
  have hl := hsrc.1
  obtain ⟨b, off, spot⟩ := ad
  refine wpList_append_own_at (P := Tryz.prog) w hgd s x 40 ho base _ i0 (.agg #[.int .i64 0, .int .i64 0]) 2 16 Tryz.underlying40 hi hz0 hz1 hz2 rfl (by decide) v _ _ hs hown ⟨b, off, spot⟩ m c (flatP L2) hx (by rw [flatP_length, hl]) hsrc.cells (flatP_one _)
      (by unfold maxLen; omega) (by omega) hbase (fun v' w' h1 h2 _ h4 => h v' w' ?_ h2 h4)
  unfold OwnP
  rw [flatP_append, List.length_append, hl]
  exact h1
set_option maxRecDepth 100000 in
set_option maxHeartbeats 1000000 in
theorem on_any (a b : Pt) (ao : Option Addr) (n cap : Nat) (S : List Pt) (w : World) (h : IsPts w ao n cap S) (hn : n ≤ 1000) :
    Calls Tryz.prog 131 #[ptV a, ptV b, .slice ao n cap] w fun e w' => ∃ v, e = .returned v ∧ OwnP w' w.heap.size v (S.filter fun p => onP p a b) ∧ Below w.heap.size w w' := by
  have HI := Lib.hid h
  have HL : Hid (S.length = n) := h.1
  have hcm := h.2.2.1
  have hnc := h.2.1
  unfold maxLen at hcm
  have HON : Hid (∀ p w, Calls Tryz.prog 102 #[ptV p, ptV a, ptV b] w fun e w' => e = .returned (.bool (onP p a b)) ∧ Grew w w') := Lib.hid (fun p w => On_any p a b w)
  obtain ⟨f, hf⟩ : ∃ f : Pt → Bool, f = fun p => onP p a b := ⟨_, rfl⟩
  have HON : Hid (∀ p w, Calls Tryz.prog 102 #[ptV p, ptV a, ptV b] w fun e w' => e = .returned (.bool (f p)) ∧ Grew w w') := by rw [hf]; exact HON
  rw [← hf]
  clear h hf
  obtain ⟨ax, ay⟩ := a
  obtain ⟨bx, bY⟩ := b
  unfold ptV at *
  dsimp only at HON ⊢
  obtain ⟨W2, hW2⟩ : ∃ W, W = (w.alloc (.cells #[.int .i64 ax, .int .i64 ay] 24)).alloc (.cells #[.int .i64 bx, .int .i64 bY] 24) := ⟨_, rfl⟩
  have hsz : W2.heap.size = w.heap.size + 2 := by rw [hW2]; simp
  have HB : Hid (Below w.heap.size w W2) := Lib.hid (by rw [hW2]; exact ((Below.refl _ _).alloc (Nat.le_refl _) _).alloc (by simp) _)
  have HC : Hid ((W2.cell? ⟨w.heap.size, 0, none⟩ = some (.int .i64 ax) ∧ W2.cell? ⟨w.heap.size, 1, none⟩ = some (.int .i64 ay)) ∧ (W2.cell? ⟨w.heap.size + 1, 0, none⟩ = some (.int .i64 bx) ∧ W2.cell? ⟨w.heap.size + 1, 1, none⟩ = some (.int .i64 bY))) := Lib.hid (by
    rw [hW2]
    exact ⟨⟨((Grew.refl _).alloc _).cell (cell_of_row _ _ _ _ _ _ (alloc_new w _)), ((Grew.refl _).alloc _).cell (cell_of_row _ _ _ _ _ _ (alloc_new w _))⟩, cell_of_row _ _ _ _ _ _ (alloc_new2 w _ _), cell_of_row _ _ _ _ _ _ (alloc_new2 w _ _)⟩)
  have HW := Lib.hid hW2
  have HZ := Lib.hid hsz
  go_enter Tryz.func131, Tryz.ntmps131
  go_wp2
  rw [← hW2]
  clear hW2 hsz
  go_loopw [7, 12] (fun v i wr => ∃ k : Nat, k ≤ n ∧ i = .int .i64 k ∧ Hid (OwnP wr W2.heap.size v ((S.take k).filter f)) ∧ Hid (Below W2.heap.size W2 wr)) (fun _ i _ => n - (intOf i).toNat)
  case atStart => exact ⟨0, by omega, rfl, OwnP.nil _ _, Below.refl _ _⟩
  case round =>
    obtain ⟨k, hk, rfl, hown, hbl⟩ := hrel
    by_cases hlt : k < n
    · have hi0 : (0 : Int) ≤ (k : Int) := by omega
      have hi5 : (k : Int) < (n : Int) := by omega
      obtain ⟨b2, off2, rfl, e0, e1⟩ := ((HI.out.later HB.out (Nat.le_refl _)).later hbl.out (Nat.le_refl _)).at hlt
      obtain ⟨c, hc⟩ : ∃ c, c = S.getD k p0 := ⟨_, rfl⟩
      rw [← hc] at e0 e1
      have HT : Hid ((S.take (k + 1)).filter f = (S.take k).filter f ++ (if f c then [c] else [])) := Lib.hid (by rw [hc]; exact filter_take (by rw [HL.out]; exact hlt))
      have HF : Hid (((S.take k).filter f).length ≤ 1000) := Lib.hid (by
        have := List.length_filter_le f (S.take k)
        rw [List.length_take] at this
        omega)
      have HO := Lib.hid (HON.out c)
      obtain ⟨q, hq⟩ : ∃ q, q = f c := ⟨_, rfl⟩
      rw [← hq] at HO HT
      have hal : Below wr.heap.size wr (wr.alloc (.cells #[.int .i64 c.x, .int .i64 c.y] 24)) := (Below.refl _ _).alloc (Nat.le_refl _) _
      have q0 : (wr.alloc (.cells #[.int .i64 c.x, .int .i64 c.y] 24)).cell? ⟨wr.heap.size, 0, none⟩ = some (.int .i64 c.x) := cell_of_row _ _ _ _ _ _ (alloc_new _ _)
      have q1 : (wr.alloc (.cells #[.int .i64 c.x, .int .i64 c.y] 24)).cell? ⟨wr.heap.size, 1, none⟩ = some (.int .i64 c.y) := cell_of_row _ _ _ _ _ _ (alloc_new _ _)
      have hW : Below W2.heap.size W2 (wr.alloc (.cells #[.int .i64 c.x, .int .i64 c.y] 24)) := hbl.out.alloc hbl.out.size _
      have lt0 : w.heap.size < W2.heap.size := by rw [HZ.out]; omega
      have lt1 : w.heap.size + 1 < W2.heap.size := by rw [HZ.out]; omega
      have a0 := (hW.cell (p := ⟨w.heap.size, 0, none⟩) lt0).trans HC.out.1.1
      have a1 := (hW.cell (p := ⟨w.heap.size, 1, none⟩) lt0).trans HC.out.1.2
      have b0 := (hW.cell (p := ⟨w.heap.size + 1, 0, none⟩) lt1).trans HC.out.2.1
      have b1 := (hW.cell (p := ⟨w.heap.size + 1, 1, none⟩) lt1).trans HC.out.2.2
      have HAL := Lib.hid (And.intro hal hW)
      have HQ := Lib.hid (And.intro q0 q1)
      clear hc hq hal hW lt0 lt1
      cases q with
      | true =>
        go_wp2_with fail
        refine (HO.out _).mono ?_
        rintro e w4 ⟨rfl, hg4⟩
        have q2 := hg4.cell q0
        have q3 := hg4.cell q1
        have HG4 := Lib.hid hg4
        clear hg4 q0 q1 a0 a1 b0 b1
        go_wp2_with (at_builtin; refine wpList_append_pts rfl _ _ rfl W2.heap.size _ ((S.take k).filter f) rfl (hown.out.later (HAL.out.1.trans ((HG4.out.1.mono HAL.out.1.size).trans (((Below.refl _ _).alloc (Nat.le_refl _) _).mono (Nat.le_trans HAL.out.1.size HG4.out.size))))) _ _ _ [c] rfl (pt1 w4 c) (by have := HF.out; omega) (Nat.le_trans HAL.out.2.size (Nat.le_trans HG4.out.size (by simp))) ?_
                     intro v5 w5 hown5 hg5
                     have hb5 : Below W2.heap.size W2 w5 := ((HAL.out.2.trans (HG4.out.1.mono HAL.out.2.size)).alloc (Nat.le_trans HAL.out.2.size HG4.out.size) _).grown hg5 (Nat.le_trans HAL.out.2.size (Nat.le_trans HG4.out.size (by simp))) (fun k hk => (hown.out.lt k hk).1)
                     have H5 := Lib.hid (And.intro hown5 hb5)
                     clear hown5 hg5 hb5)
        go_roundw
        case rel => exact ⟨k + 1, by omega, by go_num, by rw [HT.out]; exact H5.out.1, H5.out.2⟩
        case measure => simp [intOf]; omega
      | false =>
        go_wp2_with fail
        refine (HO.out _).mono ?_
        rintro e w4 ⟨rfl, hg4⟩
        have HG4 := Lib.hid hg4
        clear hg4 q0 q1 a0 a1 b0 b1
        go_wp2_with fail
        go_roundw
        case rel => exact ⟨k + 1, by omega, by go_num, by rw [HT.out, if_neg (by simp), List.append_nil]; exact hown.out.later (HAL.out.1.trans (HG4.out.1.mono HAL.out.1.size)), HAL.out.2.trans (HG4.out.1.mono HAL.out.2.size)⟩
        case measure => simp [intOf]; omega
    · obtain rfl : n = k := by omega
      go_wp2
      go_ret
      refine ⟨_, rfl, ?_, HB.out.trans (hbl.out.mono HB.out.size)⟩
      have := hown.out
      rw [List.take_of_length_le (by rw [HL.out]; exact Nat.le_refl _)] at this
      exact OwnP.base this HB.out.size
set_option maxRecDepth 100000 in
set_option maxHeartbeats 1000000 in
/-- those of S that out has not, behind it; S lies in a block of its own. -/
theorem gather_any (base : Nat) (v0 : Value) (L : List Pt) (ao : Option Addr) (n cap : Nat) (S : List Pt) (w : World) (h : IsPts w ao n cap S) (hn : n ≤ 1000) (hl : L.length ≤ 1000) (hown : OwnP w base v0 L) (hb : base ≤ w.heap.size)
    (hap : ∀ b off, ao = some ⟨b, off, none⟩ → v0.ownBlock ≠ some b) :
    Calls Tryz.prog 130 #[v0, .slice ao n cap] w fun e w' => ∃ v, e = .returned v ∧ OwnP w' base v (gatherP L S) ∧ Below base w w' := by
  have HI := Lib.hid h
  have HL : Hid (S.length = n) := h.1
  have hcm := h.2.2.1
  have hnc := h.2.1
  unfold maxLen at hcm
  have HO := Lib.hid hown
  have HBS := Lib.hid hb
  have HAP := Lib.hid hap
  have HLN := Lib.hid hl
  clear h hown hap hl
  obtain ⟨ai, cc, hv0, _⟩ := HO.out.pts
  subst hv0
  go_enter Tryz.func130, Tryz.ntmps130
  go_wp2
  go_loopw [0, 9] (fun v i wr => ∃ k : Nat, k ≤ n ∧ i = .int .i64 k ∧ Hid (OwnP wr base v (gatherP L (S.take k))) ∧ Hid (IsPts wr ao n cap S) ∧ Hid (Below base w wr) ∧ Hid ((gatherP L (S.take k)).length ≤ 1000 + k) ∧ Hid (∀ b off, ao = some ⟨b, off, none⟩ → v.ownBlock ≠ some b)) (fun _ i _ => n - (intOf i).toNat)
  case atStart => exact ⟨0, by omega, rfl, HO.out, HI.out, Below.refl _ _, HLN.out, HAP.out⟩
  case round =>
    obtain ⟨k, hk, rfl, hown, hsp, hbl, hln, hap⟩ := hrel
    obtain ⟨ai, cc, hv0, hpts⟩ := hown.out.pts
    obtain ⟨G, hG⟩ : ∃ G, G = gatherP L (S.take k) := ⟨_, rfl⟩
    rw [← hG] at hown hln hpts hv0
    have hgl := hln.out
    have hHG := Lib.hid hG
    subst hv0
    clear hG
    obtain ⟨m, hm⟩ : ∃ m, m = G.length := ⟨_, rfl⟩
    rw [← hm] at hown hap ⊢
    have hgl2 : m ≤ 1000 + k := by rw [hm]; exact hgl
    have HPT := Lib.hid hpts
    have HM := Lib.hid hm
    clear hm hgl hpts hln
    by_cases hlt : k < n
    · have hi0 : (0 : Int) ≤ (k : Int) := by omega
      have hi5 : (k : Int) < (n : Int) := by omega
      obtain ⟨b2, off2, rfl, e0, e1⟩ := hsp.out.at hlt
      obtain ⟨c, hc⟩ : ∃ c, c = S.getD k p0 := ⟨_, rfl⟩
      rw [← hc] at e0 e1
      have HT : Hid (gatherP L (S.take (k + 1)) = if c ∈ G then G else G ++ [c]) := Lib.hid (by rw [hc, hHG.out]; exact gatherP_take (by rw [HL.out]; exact hlt))
      have HCT := Lib.hid (fun W (hW : IsPts W ai m cc G) => Contains_any ai m cc G c W hW)
      obtain ⟨q, hq⟩ : ∃ q, q = decide (c ∈ G) := ⟨_, rfl⟩
      rw [← hq] at HCT
      have hal : Below wr.heap.size wr (wr.alloc (.cells #[.int .i64 c.x, .int .i64 c.y] 24)) := (Below.refl _ _).alloc (Nat.le_refl _) _
      have q0 : (wr.alloc (.cells #[.int .i64 c.x, .int .i64 c.y] 24)).cell? ⟨wr.heap.size, 0, none⟩ = some (.int .i64 c.x) := cell_of_row _ _ _ _ _ _ (alloc_new _ _)
      have q1 : (wr.alloc (.cells #[.int .i64 c.x, .int .i64 c.y] 24)).cell? ⟨wr.heap.size, 1, none⟩ = some (.int .i64 c.y) := cell_of_row _ _ _ _ _ _ (alloc_new _ _)
      have hbw : base ≤ wr.heap.size := Nat.le_trans HBS.out hbl.out.size
      have HAL := Lib.hid (And.intro hal hbw)
      have HQ := Lib.hid hq
      unfold ptV at HCT
      clear hc hq hal hbw
      cases q with
      | true =>
        go_wp2_with fail
        refine (HCT.out (wr.alloc (.cells #[.int .i64 c.x, .int .i64 c.y] 24)) (by rw [HM.out]; exact HPT.out.later HAL.out.1 (Nat.le_refl _))).mono ?_
        rintro e w4 ⟨rfl, hg4⟩
        have HG4 := Lib.hid hg4
        clear hg4 q0 q1
        go_wp2_with fail
        go_roundw
        case rel =>
          have hbb : Below wr.heap.size wr w4 := HAL.out.1.trans (HG4.out.1.mono HAL.out.1.size)
          refine ⟨k + 1, by omega, by go_num, ?_, hsp.out.later hbb (Nat.le_refl _), hbl.out.trans (hbb.mono HAL.out.2), ?_, hap.out⟩
          · rw [HT.out, if_pos (of_decide_eq_true HQ.out.symm)]
            rw [HM.out] at hown ⊢
            exact hown.out.later hbb
          · rw [HT.out, if_pos (of_decide_eq_true HQ.out.symm), ← HM.out]
            exact Lib.hid (by omega)
        case measure => simp [intOf]; omega
      | false =>
        go_wp2_with fail
        refine (HCT.out (wr.alloc (.cells #[.int .i64 c.x, .int .i64 c.y] 24)) (by rw [HM.out]; exact HPT.out.later HAL.out.1 (Nat.le_refl _))).mono ?_
        rintro e w4 ⟨rfl, hg4⟩
        have q2 := hg4.cell q0
        have q3 := hg4.cell q1
        have HG4 := Lib.hid hg4
        clear hg4 q0 q1
        have hbb : Below wr.heap.size wr w4 := HAL.out.1.trans (HG4.out.1.mono HAL.out.1.size)
        have hb5 : Below wr.heap.size wr (w4.alloc (.cells #[.int .i64 c.x, .int .i64 c.y] 24)) := hbb.alloc hbb.size _
        have HBB := Lib.hid hb5
        clear hbb hb5
        go_wp2_with (at_builtin; refine wpList_append_pts_at rfl _ _ rfl base _ G rfl (hown.out.later HBB.out) _ _ _ [c] rfl (pt1 w4 c) (by have := HM.out; omega) (Nat.le_trans HAL.out.2 HBB.out.size) ?_
                     intro v5 w5 hown5 hg5 hat5
                     have H5 := Lib.hid (And.intro hown5 (And.intro hg5 hat5))
                     clear hown5 hg5 hat5)
        go_roundw
        case rel =>
          have hg5 := H5.out.2.1
          have hgr : Below base w w5 := (hbl.out.trans (HBB.out.mono HAL.out.2)).grown hg5 (Nat.le_trans HAL.out.2 HBB.out.size) (fun k hk => (hown.out.lt k hk).1)
          refine ⟨k + 1, by omega, by go_num, ?_, ?_, hgr, ?_, ?_⟩
          · rw [HT.out, if_neg (of_decide_eq_false HQ.out.symm)]
            exact H5.out.1
          · have hsp2 := hsp.out.later HBB.out (Nat.le_refl _)
            exact Lib.hid (hsp2.block (hg5.block _ (Nat.lt_of_lt_of_le (block_lt_of_cell e0) HBB.out.size) (fun e => hap.out _ _ rfl e.symm)))
          · rw [HT.out, if_neg (of_decide_eq_false HQ.out.symm), List.length_append, ← HM.out]
            exact Lib.hid (by simp; omega)
          · refine Lib.hid (fun b off e => ?_)
            cases e
            have hlt2 := Nat.lt_of_lt_of_le (block_lt_of_cell e0) HBB.out.size
            have hne := hap.out _ _ rfl
            rcases H5.out.2.2 with h | h
            · rw [h]; exact hne
            · rw [h]
              intro e
              cases e
              exact Nat.lt_irrefl _ hlt2
        case measure => simp [intOf]; omega
    · obtain rfl : n = k := by omega
      go_wp2
      go_ret
      refine ⟨_, rfl, ?_, hbl.out⟩
      have := hHG.out
      rw [List.take_of_length_le (by rw [HL.out]; exact Nat.le_refl _)] at this
      rw [← this]
      exact hown.out
end Go.Proofs.YtjiiikeniocmfaaGreat

/- cross.Ends -/
set_option linter.unusedSimpArgs false
set_option linter.unusedVariables false
namespace Go.Proofs.YtjiiikeniocmfaaGreat
open Go.RowKit Go.Geo
theorem pts2 (w : World) (a b : Pt) : IsPts (w.alloc (.cells #[.int .i64 a.x, .int .i64 a.y, .int .i64 b.x, .int .i64 b.y] 24)) (some ⟨w.heap.size, 0, none⟩) 2 2 [a, b] := by
  refine ⟨rfl, Nat.le_refl _, by unfold maxLen; omega, fun _ => ⟨_, _, rfl, fun i hi => ?_⟩, fun h => by cases h⟩
  have h := alloc_new w (.cells #[.int .i64 a.x, .int .i64 a.y, .int .i64 b.x, .int .i64 b.y] 24)
  match i, hi with
  | 0, _ => exact ⟨cell_of_row _ _ _ _ _ _ h, cell_of_row _ _ _ _ _ _ h⟩
  | 1, _ => exact ⟨cell_of_row _ _ _ _ _ _ h, cell_of_row _ _ _ _ _ _ h⟩
theorem pts2d (w : World) (a b : Pt) : IsPts (w.alloc (.cells #[.int .i64 a.x, .int .i64 a.y, .int .i64 b.x, .int .i64 b.y] 24)).drew (some ⟨w.heap.size, 0, none⟩) 2 2 [a, b] := pts2 w.drew a b
theorem pts2n (w : World) (g : Nat) (a b : Pt) (hg : w.heap.size = g) : IsPts (w.alloc (.cells #[.int .i64 a.x, .int .i64 a.y, .int .i64 b.x, .int .i64 b.y] 24)).drew (some ⟨g, 0, none⟩) 2 2 [a, b] := by rw [← hg]; exact pts2d w a b
/-- four points in boxes of their own. -/
def Box4 (B : Nat) (a b c d : Pt) (w : World) : Prop :=
  (w.cell? ⟨B, 0, none⟩ = some (.int .i64 a.x) ∧ w.cell? ⟨B, 1, none⟩ = some (.int .i64 a.y)) ∧ (w.cell? ⟨B + 1, 0, none⟩ = some (.int .i64 b.x) ∧ w.cell? ⟨B + 1, 1, none⟩ = some (.int .i64 b.y)) ∧
  (w.cell? ⟨B + 1 + 1, 0, none⟩ = some (.int .i64 c.x) ∧ w.cell? ⟨B + 1 + 1, 1, none⟩ = some (.int .i64 c.y)) ∧ (w.cell? ⟨B + 1 + 1 + 1, 0, none⟩ = some (.int .i64 d.x) ∧ w.cell? ⟨B + 1 + 1 + 1, 1, none⟩ = some (.int .i64 d.y))
theorem box4_new (w : World) (a b c d : Pt) : Box4 w.heap.size a b c d ((((w.alloc (.cells #[.int .i64 a.x, .int .i64 a.y] 24)).alloc (.cells #[.int .i64 b.x, .int .i64 b.y] 24)).alloc (.cells #[.int .i64 c.x, .int .i64 c.y] 24)).alloc (.cells #[.int .i64 d.x, .int .i64 d.y] 24)) := by
  have h3 : ((w.alloc (.cells #[.int .i64 a.x, .int .i64 a.y] 24)).alloc (.cells #[.int .i64 b.x, .int .i64 b.y] 24)).heap.size = w.heap.size + 1 + 1 := by simp
  have h4 : (((w.alloc (.cells #[.int .i64 a.x, .int .i64 a.y] 24)).alloc (.cells #[.int .i64 b.x, .int .i64 b.y] 24)).alloc (.cells #[.int .i64 c.x, .int .i64 c.y] 24)).heap.size = w.heap.size + 1 + 1 + 1 := by simp
  refine ⟨⟨?_, ?_⟩, ⟨?_, ?_⟩, ⟨?_, ?_⟩, ?_, ?_⟩
  · exact ((((Grew.refl _).alloc _).alloc _).alloc _).cell (cell_of_row _ _ _ _ _ _ (alloc_new w _))
  · exact ((((Grew.refl _).alloc _).alloc _).alloc _).cell (cell_of_row _ _ _ _ _ _ (alloc_new w _))
  · exact (((Grew.refl _).alloc _).alloc _).cell (cell_of_row _ _ _ _ _ _ (alloc_new2 w _ _))
  · exact (((Grew.refl _).alloc _).alloc _).cell (cell_of_row _ _ _ _ _ _ (alloc_new2 w _ _))
  · rw [← h3]; exact ((Grew.refl _).alloc _).cell (cell_of_row _ _ _ _ _ _ (alloc_new _ _))
  · rw [← h3]; exact ((Grew.refl _).alloc _).cell (cell_of_row _ _ _ _ _ _ (alloc_new _ _))
  · rw [← h4]; exact cell_of_row _ _ _ _ _ _ (alloc_new _ _)
  · rw [← h4]; exact cell_of_row _ _ _ _ _ _ (alloc_new _ _)
theorem Box4.later {B base : Nat} {a b c d : Pt} {w w' : World} (h : Box4 B a b c d w) (hb : Below base w w') (hB : B + 4 ≤ base) : Box4 B a b c d w' := by
  obtain ⟨⟨h1, h2⟩, ⟨h3, h4⟩, ⟨h5, h6⟩, h7, h8⟩ := h
  exact ⟨⟨(hb.cell (p := ⟨B, 0, none⟩) (show B < base by omega)).trans h1, (hb.cell (p := ⟨B, 1, none⟩) (show B < base by omega)).trans h2⟩, ⟨(hb.cell (p := ⟨B + 1, 0, none⟩) (show B + 1 < base by omega)).trans h3, (hb.cell (p := ⟨B + 1, 1, none⟩) (show B + 1 < base by omega)).trans h4⟩, ⟨(hb.cell (p := ⟨B + 1 + 1, 0, none⟩) (show B + 1 + 1 < base by omega)).trans h5, (hb.cell (p := ⟨B + 1 + 1, 1, none⟩) (show B + 1 + 1 < base by omega)).trans h6⟩, (hb.cell (p := ⟨B + 1 + 1 + 1, 0, none⟩) (show B + 1 + 1 + 1 < base by omega)).trans h7, (hb.cell (p := ⟨B + 1 + 1 + 1, 1, none⟩) (show B + 1 + 1 + 1 < base by omega)).trans h8⟩
theorem ends_step {B base : Nat} {a b c d : Pt} {W w1 w2 : World} (hb : Below base w1 w2) (hB : B + 4 ≤ base)
    (h1 : w1.cell? ⟨B, 0, none⟩ = some (.int .i64 a.x)) (h2 : w1.cell? ⟨B, 1, none⟩ = some (.int .i64 a.y)) (h3 : w1.cell? ⟨B + 1, 0, none⟩ = some (.int .i64 b.x)) (h4 : w1.cell? ⟨B + 1, 1, none⟩ = some (.int .i64 b.y))
    (h5 : w1.cell? ⟨B + 1 + 1, 0, none⟩ = some (.int .i64 c.x)) (h6 : w1.cell? ⟨B + 1 + 1, 1, none⟩ = some (.int .i64 c.y)) (h7 : w1.cell? ⟨B + 1 + 1 + 1, 0, none⟩ = some (.int .i64 d.x)) (h8 : w1.cell? ⟨B + 1 + 1 + 1, 1, none⟩ = some (.int .i64 d.y)) (h9 : Below base W w1) :
    w2.cell? ⟨B, 0, none⟩ = some (.int .i64 a.x) ∧ w2.cell? ⟨B, 1, none⟩ = some (.int .i64 a.y) ∧ w2.cell? ⟨B + 1, 0, none⟩ = some (.int .i64 b.x) ∧ w2.cell? ⟨B + 1, 1, none⟩ = some (.int .i64 b.y) ∧ w2.cell? ⟨B + 1 + 1, 0, none⟩ = some (.int .i64 c.x) ∧ w2.cell? ⟨B + 1 + 1, 1, none⟩ = some (.int .i64 c.y) ∧ w2.cell? ⟨B + 1 + 1 + 1, 0, none⟩ = some (.int .i64 d.x) ∧ w2.cell? ⟨B + 1 + 1 + 1, 1, none⟩ = some (.int .i64 d.y) ∧ Below base W w2 := by
  obtain ⟨⟨k1, k2⟩, ⟨k3, k4⟩, ⟨k5, k6⟩, k7, k8⟩ := Box4.later (a := a) (b := b) (c := c) (d := d) ⟨⟨h1, h2⟩, ⟨h3, h4⟩, ⟨h5, h6⟩, h7, h8⟩ hb hB
  exact ⟨k1, k2, k3, k4, k5, k6, k7, k8, h9.trans hb⟩
theorem ends_alloc {B : Nat} {a b c d : Pt} {W w1 : World} {o : Obj} (hz : B + 4 ≤ W.heap.size)
    (h1 : w1.cell? ⟨B, 0, none⟩ = some (.int .i64 a.x)) (h2 : w1.cell? ⟨B, 1, none⟩ = some (.int .i64 a.y)) (h3 : w1.cell? ⟨B + 1, 0, none⟩ = some (.int .i64 b.x)) (h4 : w1.cell? ⟨B + 1, 1, none⟩ = some (.int .i64 b.y))
    (h5 : w1.cell? ⟨B + 1 + 1, 0, none⟩ = some (.int .i64 c.x)) (h6 : w1.cell? ⟨B + 1 + 1, 1, none⟩ = some (.int .i64 c.y)) (h7 : w1.cell? ⟨B + 1 + 1 + 1, 0, none⟩ = some (.int .i64 d.x)) (h8 : w1.cell? ⟨B + 1 + 1 + 1, 1, none⟩ = some (.int .i64 d.y)) (h9 : Below (B + 4) W w1) :
    (w1.alloc o).cell? ⟨B, 0, none⟩ = some (.int .i64 a.x) ∧ (w1.alloc o).cell? ⟨B, 1, none⟩ = some (.int .i64 a.y) ∧ (w1.alloc o).cell? ⟨B + 1, 0, none⟩ = some (.int .i64 b.x) ∧ (w1.alloc o).cell? ⟨B + 1, 1, none⟩ = some (.int .i64 b.y) ∧ (w1.alloc o).cell? ⟨B + 1 + 1, 0, none⟩ = some (.int .i64 c.x) ∧ (w1.alloc o).cell? ⟨B + 1 + 1, 1, none⟩ = some (.int .i64 c.y) ∧ (w1.alloc o).cell? ⟨B + 1 + 1 + 1, 0, none⟩ = some (.int .i64 d.x) ∧ (w1.alloc o).cell? ⟨B + 1 + 1 + 1, 1, none⟩ = some (.int .i64 d.y) ∧ Below (B + 4) W (w1.alloc o) :=
  ends_step ((Below.refl _ _).alloc (Nat.le_trans hz h9.size) _) (Nat.le_refl _) h1 h2 h3 h4 h5 h6 h7 h8 h9
theorem ends_alloc_drew {B : Nat} {a b c d : Pt} {W w1 : World} {o : Obj} (hz : B + 4 ≤ W.heap.size)
    (h1 : w1.drew.cell? ⟨B, 0, none⟩ = some (.int .i64 a.x)) (h2 : w1.drew.cell? ⟨B, 1, none⟩ = some (.int .i64 a.y)) (h3 : w1.drew.cell? ⟨B + 1, 0, none⟩ = some (.int .i64 b.x)) (h4 : w1.drew.cell? ⟨B + 1, 1, none⟩ = some (.int .i64 b.y))
    (h5 : w1.drew.cell? ⟨B + 1 + 1, 0, none⟩ = some (.int .i64 c.x)) (h6 : w1.drew.cell? ⟨B + 1 + 1, 1, none⟩ = some (.int .i64 c.y)) (h7 : w1.drew.cell? ⟨B + 1 + 1 + 1, 0, none⟩ = some (.int .i64 d.x)) (h8 : w1.drew.cell? ⟨B + 1 + 1 + 1, 1, none⟩ = some (.int .i64 d.y)) (h9 : Below (B + 4) W w1.drew) :
    (w1.alloc o).drew.cell? ⟨B, 0, none⟩ = some (.int .i64 a.x) ∧ (w1.alloc o).drew.cell? ⟨B, 1, none⟩ = some (.int .i64 a.y) ∧ (w1.alloc o).drew.cell? ⟨B + 1, 0, none⟩ = some (.int .i64 b.x) ∧ (w1.alloc o).drew.cell? ⟨B + 1, 1, none⟩ = some (.int .i64 b.y) ∧ (w1.alloc o).drew.cell? ⟨B + 1 + 1, 0, none⟩ = some (.int .i64 c.x) ∧ (w1.alloc o).drew.cell? ⟨B + 1 + 1, 1, none⟩ = some (.int .i64 c.y) ∧ (w1.alloc o).drew.cell? ⟨B + 1 + 1 + 1, 0, none⟩ = some (.int .i64 d.x) ∧ (w1.alloc o).drew.cell? ⟨B + 1 + 1 + 1, 1, none⟩ = some (.int .i64 d.y) ∧ Below (B + 4) W (w1.alloc o).drew :=
  ends_alloc (w1 := w1.drew) (o := o) hz h1 h2 h3 h4 h5 h6 h7 h8 h9
theorem gatherP_len : ∀ (out l : List Pt), (gatherP out l).length ≤ out.length + l.length
  | out, [] => by simp [gatherP]
  | out, p :: l => by
    rw [gatherP]
    by_cases hp : p ∈ out
    · rw [if_pos hp]
      have := gatherP_len out l
      simp; omega
    · rw [if_neg hp]
      have := gatherP_len (out ++ [p]) l
      simp at this ⊢; omega
theorem gather1 (v : Value) (ao : Option Addr) (n cap : Nat) (S : List Pt) (w : World) (B : Nat) (h : IsPts w ao n cap S) (hl : S.length ≤ 2) (hB : B + 4 ≤ w.heap.size) :
    Calls Tryz.prog 130 #[.slice none 0 0, .slice ao n cap] w fun e w' => ∃ ai m ci, e = .returned (.slice ai m ci) ∧ OwnP w' (B + 4) (.slice ai m ci) (gatherP [] S) ∧ Below w.heap.size w w' ∧ Below (B + 4) w w' :=
  (gather_any w.heap.size _ [] ao n cap S w h (by rw [← h.1]; omega) (by simp) (OwnP.nil _ _) (Nat.le_refl _) (fun b off e => by simp [Value.ownBlock])).mono fun e w' h => by
    obtain ⟨v, rfl, ho, hb⟩ := h
    obtain ⟨ai, ci, rfl, _⟩ := ho.pts
    exact ⟨ai, _, ci, rfl, ho.base hB, hb, hb.mono hB⟩
theorem on2_any (base : Nat) (a b c d : Pt) (g : Nat) (w : World) (h : IsPts w (some ⟨g, 0, none⟩) 2 2 [c, d]) (hb : base ≤ w.heap.size) :
    Calls Tryz.prog 131 #[ptV a, ptV b, .slice (some ⟨g, 0, none⟩) 2 2] w fun e w' => ∃ ao m cap, e = .returned (.slice ao m cap) ∧ IsPts w' ao m cap ([c, d].filter fun p => onP p a b) ∧ (∀ b off, ao = some ⟨b, off, none⟩ → w.heap.size ≤ b) ∧ Below w.heap.size w w' ∧ Below base w w' :=
  (on_any a b _ _ _ _ w h (by omega)).mono fun e w' h => by
    obtain ⟨v, rfl, ho, hbl⟩ := h
    obtain ⟨ao, cap, rfl, hp⟩ := ho.pts
    exact ⟨ao, _, cap, rfl, hp, (fun b off e => by cases e; exact (ho.lt b rfl).1), hbl, hbl.mono hb⟩
/-- a slice of so many. -/
def LenR (m : Nat) (w : World) (e : Ending) (w' : World) : Prop := ∃ ao cap, e = .returned (.slice ao m cap) ∧ Below w.heap.size w w'
set_option maxRecDepth 100000 in
set_option maxHeartbeats 4000000 in
theorem Ends_any (a b c d : Pt) (w : World) :
    Calls Tryz.prog 105 #[ptV a, ptV b, ptV c, ptV d] w fun e w' => LenR (endsP a b c d).length w e w' := by
  obtain ⟨B, hB⟩ : ∃ B, B = w.heap.size := ⟨_, rfl⟩
  have H4 := box4_new w a b c d
  rw [← hB] at H4
  obtain ⟨W4, hW4⟩ : ∃ W, W = (((w.alloc (.cells #[.int .i64 a.x, .int .i64 a.y] 24)).alloc (.cells #[.int .i64 b.x, .int .i64 b.y] 24)).alloc (.cells #[.int .i64 c.x, .int .i64 c.y] 24)).alloc (.cells #[.int .i64 d.x, .int .i64 d.y] 24) := ⟨_, rfl⟩
  rw [← hW4] at H4
  have hsz : W4.heap.size = B + 4 := by rw [hW4, hB]; simp
  have HB0 : Hid (Grew w W4) := Lib.hid (by rw [hW4]; exact ((((Grew.refl _).alloc _).alloc _).alloc _).alloc _)
  have HH4 := Lib.hid H4
  have HSZ := Lib.hid hsz
  have HBE := Lib.hid hB
  have HM1 := Lib.hid (may_any a b)
  have HM2 := Lib.hid (may_any c d)
  have HN1 : Hid (∀ g w, IsPts w (some ⟨g, 0, none⟩) 2 2 [a, b] → B + 4 ≤ w.heap.size → Calls Tryz.prog 131 #[ptV c, ptV d, .slice (some ⟨g, 0, none⟩) 2 2] w fun e w' => ∃ ao m cap, e = .returned (.slice ao m cap) ∧ IsPts w' ao m cap ([a, b].filter fun p => onP p c d) ∧ (∀ b off, ao = some ⟨b, off, none⟩ → w.heap.size ≤ b) ∧ Below w.heap.size w w' ∧ Below (B + 4) w w') := Lib.hid (fun g w h hb => on2_any (B + 4) c d a b g w h hb)
  have HN2 : Hid (∀ g w, IsPts w (some ⟨g, 0, none⟩) 2 2 [c, d] → B + 4 ≤ w.heap.size → Calls Tryz.prog 131 #[ptV a, ptV b, .slice (some ⟨g, 0, none⟩) 2 2] w fun e w' => ∃ ao m cap, e = .returned (.slice ao m cap) ∧ IsPts w' ao m cap ([c, d].filter fun p => onP p a b) ∧ (∀ b off, ao = some ⟨b, off, none⟩ → w.heap.size ≤ b) ∧ Below w.heap.size w w' ∧ Below (B + 4) w w') := Lib.hid (fun g w h hb => on2_any (B + 4) a b c d g w h hb)
  obtain ⟨S1, hS1⟩ : ∃ S, S = [a, b].filter fun p => onP p c d := ⟨_, rfl⟩
  obtain ⟨S2, hS2⟩ : ∃ S, S = [c, d].filter fun p => onP p a b := ⟨_, rfl⟩
  rw [← hS1] at HN1
  rw [← hS2] at HN2
  have he : endsP a b c d = if mayP a b && mayP c d then gatherP (gatherP [] S1) S2 else [] := by rw [hS1, hS2]; rfl
  have hl1 : S1.length ≤ 2 := by rw [hS1]; exact List.length_filter_le _ _
  have hl2 : S2.length ≤ 2 := by rw [hS2]; exact List.length_filter_le _ _
  rw [he]
  clear he hS1 hS2
  have HL1 := Lib.hid hl1
  have HL2 := Lib.hid hl2
  clear hl1 hl2
  obtain ⟨p, hp⟩ : ∃ p, p = mayP a b := ⟨_, rfl⟩
  obtain ⟨q, hq⟩ : ∃ q, q = mayP c d := ⟨_, rfl⟩
  rw [← hp] at HM1
  rw [← hq] at HM2
  rw [← hp, ← hq]
  clear hp hq
  unfold ptV at *
  cases p with
  | false =>
    go_enter Tryz.func105, Tryz.ntmps105
    go_wp2_with fail
    refine (HM1.out _).mono ?_
    rintro e w1 ⟨rfl, hg1⟩
    go_wp2_with fail
    go_ret
    exact ⟨_, _, rfl, (((((Grew.refl _).alloc _).alloc _).alloc _).alloc _ |>.trans hg1).1⟩
  | true =>
    cases q with
    | false =>
      go_enter Tryz.func105, Tryz.ntmps105
      go_wp2_with fail
      rw [← hW4, ← hB]
      refine (HM1.out _).mono ?_
      rintro e w1 ⟨rfl, hg1⟩
      obtain ⟨⟨k1, k2⟩, ⟨k3, k4⟩, ⟨k5, k6⟩, k7, k8⟩ := HH4.out.later hg1.1 (by rw [HSZ.out]; exact Nat.le_refl _)
      have HG1 := Lib.hid (HB0.out.trans hg1)
      clear hg1 H4 hW4 hB hsz
      go_wp2_with fail
      refine (HM2.out _).mono ?_
      rintro e w2 ⟨rfl, hg2⟩
      have HG2 := Lib.hid (HG1.out.trans hg2)
      clear hg2
      go_wp2_with fail
      go_ret
      exact ⟨_, _, rfl, HG2.out.1⟩
    | true =>
      go_enter Tryz.func105, Tryz.ntmps105
      go_wp2_with fail
      rw [← hW4, ← hB]
      refine (HM1.out _).mono ?_
      rintro e w1 ⟨rfl, hg1⟩
      obtain ⟨⟨k1, k2⟩, ⟨k3, k4⟩, ⟨k5, k6⟩, k7, k8⟩ := HH4.out.later hg1.1 (by rw [HSZ.out]; exact Nat.le_refl _)
      have HG1 := Lib.hid (And.intro (HB0.out.trans hg1) (show B + 4 ≤ w1.heap.size by have := hg1.size; omega))
      clear hg1 H4 hW4 hB hsz
      go_wp2_with fail
      refine (HM2.out _).mono ?_
      rintro e w2 ⟨rfl, hg2⟩
      have HG2 := Lib.hid (And.intro (HG1.out.1.trans hg2) (Nat.le_trans HG1.out.2 hg2.size))
      have HK : Hid (Box4 B a b c d w2) := Lib.hid ((show Box4 B a b c d w1 from ⟨⟨k1, k2⟩, ⟨k3, k4⟩, ⟨k5, k6⟩, k7, k8⟩).later hg2.1 HG1.out.2)
      clear hg2 k1 k2 k3 k4 k5 k6 k7 k8
      obtain ⟨⟨k1, k2⟩, ⟨k3, k4⟩, ⟨k5, k6⟩, k7, k8⟩ := HK.out
      go_wp2_with fail
      have H1 : Hid (B + 4 ≤ w2.heap.size) := Lib.hid HG2.out.2
      go_region_held3 (fun w' => w'.cell? ⟨B, 0, none⟩ = some (.int .i64 a.x) ∧ w'.cell? ⟨B, 1, none⟩ = some (.int .i64 a.y) ∧ w'.cell? ⟨B + 1, 0, none⟩ = some (.int .i64 b.x) ∧ w'.cell? ⟨B + 1, 1, none⟩ = some (.int .i64 b.y) ∧ w'.cell? ⟨B + 1 + 1, 0, none⟩ = some (.int .i64 c.x) ∧ w'.cell? ⟨B + 1 + 1, 1, none⟩ = some (.int .i64 c.y) ∧ w'.cell? ⟨B + 1 + 1 + 1, 0, none⟩ = some (.int .i64 d.x) ∧ w'.cell? ⟨B + 1 + 1 + 1, 1, none⟩ = some (.int .i64 d.y) ∧ Below (B + 4) w2 w')
        (first
          | (exact ⟨k1, k2, k3, k4, k5, k6, k7, k8, (Below.refl _ _).drew⟩)
          | (exact ends_alloc_drew H1.out k1 k2 k3 k4 k5 k6 k7 k8 (Below.refl _ _).drew)
          | (go_split_ands; refine ends_alloc_drew H1.out ?_ ?_ ?_ ?_ ?_ ?_ ?_ ?_ ?_; all_goals assumption)
          | (go_split_ands; refine ends_step hnew (Nat.le_refl _) ?_ ?_ ?_ ?_ ?_ ?_ ?_ ?_ ?_; all_goals assumption)
          | (go_split_ands; refine ends_alloc H1.out ?_ ?_ ?_ ?_ ?_ ?_ ?_ ?_ ?_; all_goals assumption))
        (first
          | (go_at_call_of 131 (Value.agg #[Value.int IntKind.i64 c.x, Value.int IntKind.i64 c.y]); go_split_ands
             refine (HN1.out _ _ (by first | exact pts2n _ _ a b rfl | exact pts2n _ _ a b (by simp) | exact (pts2n _ _ a b rfl).later (((Below.refl _ _).alloc (Nat.le_refl _) _).drew) (Nat.le_refl _) | exact (pts2 _ a b).later (((Below.refl _ _).alloc (Nat.le_refl _) _).drew) (Nat.le_refl _)) (by first | exact Nat.le_trans H1.out (Below.size (by assumption)) | (have hh := H1.out; simp; omega))).mono ?_
             rintro e wA ⟨aoA, mA, cA, rfl, hpA, hqA, hbA, hnew⟩)
          | (go_at_call_of 130 (Value.slice none 0 0); go_split_ands
             refine (gather1 (.slice none 0 0) aoA mA cA S1 _ B (by first | exact hpA | exact hpA.later ((Below.refl _ _).alloc (Nat.le_refl _) _) (Nat.le_refl _)) HL1.out (by first | exact Nat.le_trans H1.out (Below.size (by assumption)) | (have hh := H1.out; simp; omega))).mono ?_
             rintro e wB ⟨aoB, mB, cB, rfl, hoB, hbB, hnew⟩)
          | (go_at_call_of 131 (Value.agg #[Value.int IntKind.i64 a.x, Value.int IntKind.i64 a.y]); go_split_ands
             refine (HN2.out _ _ (by first | exact pts2 _ c d | exact (pts2 _ c d).later hbB (Nat.le_refl _) | exact ((pts2n _ _ c d (by simp)).later hbA (Nat.le_refl _)).later hbB (Nat.le_refl _) | exact (((pts2 w2 c d).later (((Below.refl _ _).alloc (Nat.le_refl _) _).drew) (Nat.le_refl _)).later hbA (Nat.le_refl _)).later hbB (Nat.le_refl _)) (by first | exact Nat.le_trans H1.out (Below.size (by assumption)) | (have hh := H1.out; simp; omega))).mono ?_
             rintro e wC ⟨aoC, mC, cC, rfl, hpC, hqC, hbC, hnew⟩)
          | (go_at_call 130; go_split_ands
             refine (gather_any (B + 4) (.slice aoB mB cB) (gatherP [] S1) aoC mC cC S2 _ hpC (by have h1 := hpC.1; have h2 := HL2.out; omega) (by have h1 := gatherP_len [] S1; have h2 := HL1.out; simp at h1; omega) (by first | exact hoB.later hbC | exact (hoB.later ((Below.refl _ _).alloc (Nat.le_refl _) _)).later hbC) (by first | exact Nat.le_trans H1.out (Below.size (by assumption)) | (have hh := H1.out; simp; omega)) (fun b off e h => by have h1 := hqC b off e; have h2 := (hoB.lt b h).2; (try simp at h1); omega)).mono ?_
             rintro e wD ⟨vD, rfl, hoD, hnew⟩
             obtain ⟨aD, cD, rfl, _⟩ := hoD.pts))
      all_goals go_wp2_with fail
      all_goals (go_ret; refine ⟨_, _, rfl, HG2.out.1.1.trans (Below.mono (B := B + 4) (by first | assumption | (go_split_ands; assumption)) (by have := HBE.out; omega))⟩)
end Go.Proofs.YtjiiikeniocmfaaGreat
