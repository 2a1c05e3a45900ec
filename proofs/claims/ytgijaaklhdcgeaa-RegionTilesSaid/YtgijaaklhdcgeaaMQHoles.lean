/- RegionHoles: the walk -/
import Derived.Test.YtgijaaklhdcgeaaMQCopy
set_option linter.unusedSimpArgs false
set_option linter.unusedVariables false
namespace Go.Proofs.Ytgijaaklhdcgeaa
open Go.RowKit Go.Geo
attribute [local go_sem] Oper.semAt_some
theorem rings_of_row {w : World} {base n : Nat} {v : Value} {vs : List Value} {R : List (List Pt)} (h2 : w.ownsRow base 28 1 v n vs) (hl : R.length = n)
    (h3 : ∀ i, i < n → ∃ x y z, vs[i]? = some (.slice x y z) ∧ IsPts w x y z (R.getD i [])) : ∃ ao cap, v = .slice ao n cap ∧ IsRings w ao n cap R := by
  rcases h2.2 with ⟨rfl, h0⟩ | ⟨g, cap, cur, rfl, hb, hg, hn, hm, hs, ht⟩
  · subst h0
    exact ⟨none, 0, rfl, hl, Nat.le_refl _, by unfold maxLen; omega, fun _ => ⟨rfl, rfl⟩, fun k hk => absurd hk (by simp)⟩
  · refine ⟨_, cap, rfl, hl, hn, hm, fun h => (by cases h), fun k hk => ?_⟩
    obtain ⟨x, y, z, hu, hp⟩ := h3 k hk
    have hc := h2.cells (g := g) rfl k _ hu
    rw [add_cell] at hc
    exact ⟨g, 0, x, y, z, rfl, hc, hp⟩
/-- a ring of anybody's behind rings of the call's own. -/
theorem wpList_append_ring {w : World} {ops : Array Oper} {rest : List Oper} {o : Oper} {a : Act} {Q : Exit → Act → World → Prop} (hgd : o.guard = none) (s x : Operand)
    (ho : o.op = .call { callee := .builtin .append, args := #[s, x], argTypes := #[23, 23] })
    (base : Nat) (v : Value) (L : List (List Pt)) (hs : a.eval s = v) (hown : OwnR w base v L)
    (g : Nat) (hx : a.eval x = .slice (some ⟨g, 0, none⟩) 1 1) (au : Option Addr) (nu cu : Nat) (r : List Pt) (hg : w.heap[g]? = some (.cells #[.slice au nu cu] 28 (0, 0)))
    (hr : ∀ w', w.grownBy w' v.ownBlock → IsPts w' au nu cu r)
    (hn : L.length ≤ 4294967296) (hbase : base ≤ w.heap.size)
    (h : ∀ ao' cap' w', IsRings w' ao' (L.length + 1) cap' (L ++ [r]) → w.grownBy w' v.ownBlock → wpList Try.prog ops Q rest (a.put o.dst (.slice ao' (L.length + 1) cap')) w') : wpList Try.prog ops Q (o :: rest) a w := by
  obtain ⟨i0, hi, hz0, hz1, hz2⟩ := info_parts' Try.infoPts
  obtain ⟨vs, h1, h2, h3⟩ := hown
  obtain ⟨v', w', hrun, hx2, hgr, _⟩ := run_append_own (P := Try.prog) w base 23 o.type 28 i0 (.slice none 0 0) 1 24 Try.underlying23 hi hz0 hz1 hz2 rfl (by decide) v L.length vs h2 ⟨g, 0, none⟩ 1 1 [.slice au nu cu] rfl
    (by
      intro j u hu
      match j, hu with
      | 0, hu =>
        simp at hu; subst hu
        rw [show (⟨g, 0, none⟩ : Addr).add 0 = ⟨g, 0, none⟩ from rfl, cell_of_row _ _ _ _ _ _ hg]; rfl)
    (by intro u hu; simp at hu; subst hu; rfl) (by unfold maxLen; omega) (by omega) hbase
  obtain ⟨ao', cap', rfl, hR⟩ := rings_of_row (R := L ++ [r]) hx2 (by simp) (fun i hi => by
    by_cases hlt : i < L.length
    · obtain ⟨u, hu, ho⟩ := h3 i hlt
      have e : (L ++ [r]).getD i [] = L.getD i [] := by simp [List.getD_eq_getElem?_getD, List.getElem?_append_left hlt]
      have ho2 : OwnP w' base u (L.getD i []) := World.ownsRow.kept ho hgr (own_apart (by decide) h2 ho)
      obtain ⟨x, z, rfl, hp⟩ := ho2.pts
      refine ⟨x, _, z, by rw [List.getElem?_append_left (by omega)]; exact hu, ?_⟩
      rw [e]
      exact hp
    · obtain rfl : i = L.length := by omega
      have e : (L ++ [r]).getD L.length [] = r := by simp [List.getD_eq_getElem?_getD]
      refine ⟨au, nu, cu, by rw [← h1]; simp, ?_⟩
      rw [e]
      exact hr w' hgr)
  refine wpList_plain hgd fun K hK => ?_
  unfold Oper.wp execOp
  simp only [ho, resolve, invoke, builtin, Sem.run_bind, Sem.run_pure, Result.andThen_ok, List.map_toArray, List.map_cons, List.map_nil, hs, hx, hrun]
  exact hK _ _ (h _ _ w' hR hgr)
theorem holes_step {A B C : Addr} {D : Addr} {u1 u2 u3 u4 : Value} {W w1 w2 : World} (hb : Below w1.heap.size w1 w2) (h1 : w1.cell? A = some u1) (h2 : w1.cell? B = some u2) (h3 : w1.cell? C = some u3) (h4 : w1.cell? D = some u4) (h5 : Below W.heap.size W w1) :
    w2.cell? A = some u1 ∧ w2.cell? B = some u2 ∧ w2.cell? C = some u3 ∧ w2.cell? D = some u4 ∧ Below W.heap.size W w2 :=
  ⟨(hb.cell (block_lt_of_cell h1)).trans h1, (hb.cell (block_lt_of_cell h2)).trans h2, (hb.cell (block_lt_of_cell h3)).trans h3, (hb.cell (block_lt_of_cell h4)).trans h4, h5.trans (hb.mono h5.size)⟩
set_option maxRecDepth 100000 in
set_option maxHeartbeats 8000000 in
theorem RegionHoles_any (ao : Option Addr) (n cap : Nat) (R : List (List Pt)) (bo : Option Addr) (m cap2 : Nat) (L : List Pt) (p : Pt) (w : World) (h : IsRings w ao n cap R) (hk : Kept R) (h2 : IsPts w bo m cap2 L) :
    Calls Try.prog 4 #[.agg #[.slice ao n cap], .slice bo m cap2, ptV p] w fun e w' => e = .returned (.bool true) ∧ Below w.heap.size w w' := by
  have HI := Lib.hid h
  have HJ := Lib.hid h2
  have HK := Lib.hid hk
  have HL := Lib.hid h.1
  have HAW := Lib.hid awake_any
  have hcm := h.2.2.1
  have hnc := h.2.1
  have hcm2 := h2.2.2.1
  have hnc2 := h2.2.1
  unfold maxLen at hcm hcm2
  obtain ⟨W0, hW0⟩ : ∃ W, W = (w.alloc (.cells #[.slice ao n cap] 25)).alloc (.cells #[.int .i64 p.x, .int .i64 p.y] 27) := ⟨_, rfl⟩
  have a0 : W0.heap[w.heap.size]? = some (.cells #[.slice ao n cap] 25 (0, 0)) := by rw [hW0]; exact (Below.heap_alloc _ _ _ (by simp)).trans (alloc_new _ _)
  have a1 : W0.heap[w.heap.size + 1]? = some (.cells #[.int .i64 p.x, .int .i64 p.y] 27 (0, 0)) := by rw [hW0]; exact alloc_new2 _ _ _
  have hs0 : W0.heap.size = w.heap.size + 2 := by rw [hW0]; simp
  have hg0 : Grew w W0 := by rw [hW0]; exact ((Grew.refl _).alloc _).alloc _
  have H0 := Lib.hid (And.intro a0 (And.intro a1 (And.intro hs0 hg0)))
  clear h h2 hk a0 a1 hs0 hg0
  unfold ptV
  go_enter Try.func4, Try.ntmps4
  go_wp2_with fail
  rw [← hW0]
  clear hW0
  refine (HAW.out _).mono ?_
  rintro e w1 ⟨rfl, hb1⟩
  have hs0 := H0.out.2.2.1
  have k0 := (hb1.block w.heap.size (by omega)).trans H0.out.1
  have k1 := (hb1.block (w.heap.size + 1) (by omega)).trans H0.out.2.1
  have H1 := Lib.hid (And.intro k0 (And.intro k1 (And.intro hb1 (H0.out.2.2.2.1.trans (hb1.mono (by omega))))))
  have c0 : w1.cell? ⟨w.heap.size, 0, none⟩ = some (.slice ao n cap) := cell_of_row _ _ _ _ _ _ k0
  have HLG := Lib.hid (LargeRegion_any ao n cap R 10 100 w1 (HI.out.later H1.out.2.2.2 (Nat.le_refl _)) HK.out (by omega) (by omega))
  obtain ⟨q, hq⟩ : ∃ q, q = largeR R 10 100 := ⟨_, rfl⟩
  rw [← hq] at HLG
  have HQ := Lib.hid hq
  clear hb1 k0 k1 hs0 hq
  cases q with
  | true =>
    go_wp2_with fail
    refine HLG.out.mono ?_
    rintro e w2 ⟨rfl, hg2⟩
    have H2 := Lib.hid (H1.out.2.2.2.trans (hg2.1.mono H1.out.2.2.2.size))
    clear hg2
    have hundef : ∀ b, some undef = some (Value.bool b) → False := fun b h => by injection h with h; cases h
    go_wp2_with fail
    all_goals first
      | (exfalso; exact hundef _ (by assumption))
      | (go_ret; exact ⟨rfl, H2.out⟩)
  | false =>
    by_cases hm : 100 < m
    · have t1 : decide ((100 : Int) < (m : Int)) = true := decide_eq_true (by omega)
      go_wp2_with fail
      refine HLG.out.mono ?_
      rintro e w2 ⟨rfl, hg2⟩
      have H2 := Lib.hid (H1.out.2.2.2.trans (hg2.1.mono H1.out.2.2.2.size))
      clear hg2
      go_wp2_with fail
      go_ret
      exact ⟨rfl, H2.out⟩
    · have t1 : decide ((100 : Int) < (m : Int)) = false := decide_eq_false (by omega)
      go_wp2_with fail
      refine HLG.out.mono ?_
      rintro e w2 ⟨rfl, hg2⟩
      have hlg : ¬ (10 < R.length) ∧ ¬ (100 < sumLen R) := by
        have h := HQ.out
        unfold largeR at h
        constructor
        · intro h1; rw [decide_eq_true h1] at h; cases h
        · intro h1; rw [decide_eq_true h1, Bool.or_true] at h; cases h
      have hsm : Small R := ⟨by omega, fun k hk => by have := sumLen_get hk; omega⟩
      have hb12 : Below w1.heap.size w1 w2 := hg2.1
      have hs0 := H0.out.2.2.1
      have hlt0 : w.heap.size + 2 ≤ w1.heap.size := by have := H1.out.2.2.1.size; omega
      have k0 := (hb12.block w.heap.size (by omega)).trans H1.out.1
      have k1 := (hb12.block (w.heap.size + 1) (by omega)).trans H1.out.2.1
      have H2 := Lib.hid (And.intro k0 (And.intro k1 (And.intro (H1.out.2.2.2.trans (hb12.mono H1.out.2.2.2.size)) (Nat.le_trans hlt0 hb12.size))))
      have c2 : w2.cell? ⟨w.heap.size, 0, none⟩ = some (.slice ao n cap) := cell_of_row _ _ _ _ _ _ k0
      have HCP := Lib.hid (CopyRings_any ao n cap R w2 (HI.out.later H2.out.2.2.1 (Nat.le_refl _)) hsm)
      have HSM := Lib.hid hlg
      have hLn : R.length ≤ 4294967296 := by omega
      have HLN := Lib.hid hLn
      clear hg2 hlg hsm hb12 hs0 hlt0 k0 k1 c0 hLn
      go_wp2_with fail
      refine HCP.out.mono ?_
      rintro e w3 ⟨v3, rfl, ho3, hb3⟩
      have H3 := Lib.hid (And.intro ho3 hb3)
      clear ho3 hb3 c2
      go_wp2_with (
         at_builtin
         refine wpList_append_ring rfl _ _ rfl w2.heap.size v3 R rfl (H3.out.1.later ((Below.refl _ _).alloc (Nat.le_refl _) _)) w3.heap.size rfl bo m cap2 L (alloc_new _ _) (fun w' hg => (HJ.out.later H2.out.2.2.1 (Nat.le_refl _)).later ((H3.out.2.alloc H3.out.2.size _).grown hg (Nat.le_trans H3.out.2.size (by simp)) (fun k hk => (H3.out.1.lt k hk).1)) (Nat.le_refl _)) HLN.out (Nat.le_trans H3.out.2.size (by simp)) ?_
         intro a4 c4 w4 hr4 hg4
         have H4 := Lib.hid (And.intro hr4 ((H3.out.2.alloc H3.out.2.size _).grown hg4 (Nat.le_trans H3.out.2.size (by simp)) (fun k hk => (H3.out.1.lt k hk).1)))
         clear hr4 hg4)
      obtain ⟨W5, hW5⟩ : ∃ W, W = w4.alloc (.cells #[.slice a4 (R.length + 1) c4] 25) := ⟨_, rfl⟩
      try rw [← hW5]
      have hb24 : Below w2.heap.size w2 w4 := H4.out.2
      have hb25 : Below w2.heap.size w2 W5 := by rw [hW5]; exact hb24.alloc hb24.size _
      have h4 : Below w4.heap.size w4 W5 := by rw [hW5]; exact (Below.refl _ _).alloc (Nat.le_refl _) _
      have k0 := (hb25.block w.heap.size (by have := H2.out.2.2.2; omega)).trans H2.out.1
      have k1 := (hb25.block (w.heap.size + 1) (by have := H2.out.2.2.2; omega)).trans H2.out.2.1
      have c0 : W5.cell? ⟨w.heap.size, 0, none⟩ = some (.slice ao n cap) := cell_of_row _ _ _ _ _ _ k0
      obtain ⟨c1, c2, _, _⟩ := pt_cells k1
      have c3 : W5.cell? ⟨w4.heap.size, 0, none⟩ = some (.slice a4 (R.length + 1) c4) := by rw [hW5]; exact alloc_cell _ _ _
      have hww : Below w.heap.size w W5 := H2.out.2.2.1.trans (hb25.mono H2.out.2.2.1.size)
      have H5 := Lib.hid hww
      have HX : Hid (∀ w', Below W5.heap.size W5 w' → Calls Try.prog 16 #[ptV p, .agg #[.slice a4 (R.length + 1) c4]] w' fun e w'' => e = .returned (.bool (inR p (R ++ [L]))) ∧ Below w'.heap.size w' w'') := Lib.hid (fun w' hb => In_region p _ _ _ _ w' ((H4.out.1.later h4 (Nat.le_refl _)).later hb (Nat.le_refl _)))
      have HY : Hid (∀ w', Below W5.heap.size W5 w' → Calls Try.prog 16 #[ptV p, .agg #[.slice ao n cap]] w' fun e w'' => e = .returned (.bool (inR p R)) ∧ Below w'.heap.size w' w'') := Lib.hid (fun w' hb => In_region p _ _ _ _ w' ((HI.out.later hww (Nat.le_refl _)).later hb (Nat.le_refl _)))
      have HZ : Hid (∀ w', Below W5.heap.size W5 w' → Calls Try.prog 17 #[ptV p, .slice bo m cap2] w' fun e w'' => e = .returned (.bool (inP p L)) ∧ Below w'.heap.size w' w'') := Lib.hid (fun w' hb => In_ring p _ _ _ _ w' ((HJ.out.later hww (Nat.le_refl _)).later hb (Nat.le_refl _)))
      have hxor : inR p (R ++ [L]) = (inR p R != inP p L) := by rw [inR_append]; simp [inR]
      obtain ⟨u, hu⟩ : ∃ u, u = inR p R := ⟨_, rfl⟩
      obtain ⟨v, hv⟩ : ∃ u, u = inP p L := ⟨_, rfl⟩
      rw [hxor] at HX
      rw [← hu] at HX HY
      rw [← hv] at HX HZ
      unfold ptV at HX HY HZ
      have HW5 := Lib.hid hW5
      have HBV := Lib.hid (h4)
      clear hb24 hb25 h4 k0 k1 hww hxor hu hv hW5
      cases u <;> cases v
      all_goals (
        go_region_held3 (fun w' => w'.cell? ⟨w.heap.size, 0, none⟩ = some (.slice ao n cap) ∧ w'.cell? ⟨w.heap.size + 1, 0, none⟩ = some (.int .i64 p.x) ∧ w'.cell? ⟨w.heap.size + 1, 1, none⟩ = some (.int .i64 p.y) ∧ w'.cell? ⟨w4.heap.size, 0, none⟩ = some (.slice a4 (R.length + 1) c4) ∧ Below W5.heap.size W5 w')
          (first
            | (exact ⟨c0, c1, c2, c3, (Below.refl _ _).drew⟩)
            | (go_split_ands; refine holes_step hgr ?_ ?_ ?_ ?_ ?_; all_goals assumption))
          (first
            | (go_at_call 16; go_split_ands; (with_reducible refine (HX.out _ (by assumption)).mono ?_); rintro e wA ⟨rfl, hgr⟩)
            | (go_at_call 16; go_split_ands; (with_reducible refine (HY.out _ (by assumption)).mono ?_); rintro e wA ⟨rfl, hgr⟩)
            | (go_at_call 17; go_split_ands; (with_reducible refine (HZ.out _ (by assumption)).mono ?_); rintro e wC ⟨rfl, hgr⟩))
        have HWC : Hid (Below W5.heap.size W5 wC) := Lib.hid (by go_split_ands; assumption)
        go_wp2_with fail
        go_ret
        exact ⟨rfl, H5.out.trans (HWC.out.mono H5.out.size)⟩)
theorem RegionHoles_z {w : World} (g : Rg) (hg : ∃ R, IsRings w g.a g.n g.c R ∧ Kept R) (bo : Option Addr) (m cap2 : Nat) (L : List Pt) (p : Pt) (h2 : IsPts w bo m cap2 L) :
    Calls Try.prog 4 #[g.val, .slice bo m cap2, ptV p] w fun e w' => e = .returned (.bool true) ∧ Below w.heap.size w w' := by
  obtain ⟨R, hr, hk⟩ := hg
  exact RegionHoles_any _ _ _ R bo m cap2 L p w hr hk h2
end Go.Proofs.Ytgijaaklhdcgeaa
