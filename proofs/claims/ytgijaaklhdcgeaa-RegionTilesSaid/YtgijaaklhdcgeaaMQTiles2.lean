/- RegionTiles: the walk (printed by mktiles.py) -/
import Derived.Test.YtgijaaklhdcgeaaMQCopy
import Derived.Test.YtgijaaklhdcgeaaMQPick
import Derived.Test.YtgijaaklhdcgeaaMQReverse
import Derived.Test.YtgijaaklhdcgeaaMQHoles
import Derived.Test.YtgijaaklhdcgeaaMQTileP
import Derived.Test.YtgijaaklhdcgeaaMRegP
import Derived.Test.YtgijaaklhdcgeaaMQCont
import Derived.Deep.CutBlock
import Derived.Deep.DeepCutAuto
set_option linter.unusedSimpArgs false
set_option linter.unusedVariables false
namespace Go.Proofs.Ytgijaaklhdcgeaa
open Go.RowKit Go.Geo
attribute [local go_sem] Oper.semAt_some
theorem opwp_append_pts {w : World} {o : Oper} {a : Act} {K : Act → World → Prop} {Q : Exit → Act → World → Prop} (s x : Operand)
    (ho : o.op = .call { callee := .builtin .append, args := #[s, x], argTypes := #[28, 28] })
    (base : Nat) (v : Value) (L : List Pt) (hs : a.eval s = v) (hown : OwnP w base v L)
    (ao : Option Addr) (m c : Nat) (L2 : List Pt) (hx : a.eval x = .slice ao m c) (hsrc : IsPts w ao m c L2) (hnm : L.length + m ≤ 1000000000) (W : World) (hW : Below base W w) (hbase : base ≤ w.heap.size)
    (h : ∀ v' w', OwnP w' base v' (L ++ L2) → w.grownBy w' v.ownBlock → Below base W w' → K (a.put o.dst v') w') : o.wp Try.prog a w K Q := by
  obtain ⟨v', w', hr, h2, h3⟩ := run_append_pts o.type base v L hown ao m c L2 hsrc hnm hbase
  unfold Oper.wp execOp
  simp only [ho, resolve, invoke, builtin, Sem.run_bind, Sem.run_pure, Result.andThen_ok, List.map_toArray, List.map_cons, List.map_nil, hs, hx, hr]
  exact h v' w' h2 h3 (hW.grown h3 hbase (fun k hk => (hown.lt k hk).1))
/-- the law's three boxes. -/
def Trio (w : World) (p low high : Pt) (w' : World) : Prop := w'.heap[w.heap.size]? = some (.cells #[.int .i64 p.x, .int .i64 p.y] 27 (0, 0)) ∧ w'.heap[w.heap.size + 1]? = some (.cells #[.int .i64 low.x, .int .i64 low.y] 27 (0, 0)) ∧ w'.heap[w.heap.size + 1 + 1]? = some (.cells #[.int .i64 high.x, .int .i64 high.y] 27 (0, 0)) ∧ Below w.heap.size w w'
theorem Trio.step {w w1 w2 : World} {p low high : Pt} (h : Trio w p low high w1) (hb : Below w1.heap.size w1 w2) : Trio w p low high w2 :=
  ⟨(hb.block _ (heap_lt' h.1)).trans h.1, (hb.block _ (heap_lt' h.2.1)).trans h.2.1, (hb.block _ (heap_lt' h.2.2.1)).trans h.2.2.1, h.2.2.2.trans (hb.mono h.2.2.2.size)⟩
theorem pick_range {x n : Int} (hn : 1 ≤ n) : 0 ≤ pickP x n ∧ pickP x n < n := by
  unfold pickP
  rw [if_neg (by omega)]
  exact ⟨Int.emod_nonneg _ (by omega), Int.emod_lt_of_pos _ (by omega)⟩
theorem tileS {A B C : Addr} {u1 u2 u3 : Value} {W w2 : World} (h1 : W.cell? A = some u1) (h2 : W.cell? B = some u2) (h3 : W.cell? C = some u3) (h5 : Below W.heap.size W w2) :
    w2.cell? A = some u1 ∧ w2.cell? B = some u2 ∧ w2.cell? C = some u3 ∧ Below W.heap.size W w2 :=
  ⟨(h5.cell (block_lt_of_cell h1)).trans h1, (h5.cell (block_lt_of_cell h2)).trans h2, (h5.cell (block_lt_of_cell h3)).trans h3, h5⟩
theorem belowG {W w1 w2 : World} (h : Below W.heap.size W w1) (hg : Below w1.heap.size w1 w2) : Below W.heap.size W w2 := h.trans (hg.mono h.size)
theorem belowA {W w1 : World} (h : Below W.heap.size W w1) (o : Obj) : Below W.heap.size W (w1.alloc o) := h.alloc h.size _
theorem belowD {W w1 : World} (h : Below W.heap.size W w1) : Below W.heap.size W w1.drew := h.drew
theorem atLaw_ex (x y : Int) (w : World) : Calls Try.prog 19 #[.int .i64 x, .int .i64 y] w fun e w' => e = .returned (.agg #[.int .i64 x, .int .i64 y]) ∧ w.alloc (.cells #[.int .i64 x, .int .i64 y] 27) = w' := by
  go_enter Try.func19, Try.ntmps19
  go_wp2_with fail
  exact bodyPost_ret (results_point rfl rfl (alloc_new _ _)) rfl ⟨rfl, rfl⟩
/-- a cell of a block that was made lately. -/
theorem cell_late (w : World) (c : Array Value) (t : TypeId) (g j : Nat) (hg : g = w.heap.size) : (w.alloc (.cells c t)).cell? ⟨g, j, none⟩ = c[j]? := by
  subst hg
  exact cell_of_row _ _ _ _ _ _ (alloc_new w (.cells c t))
theorem cell_late2 (w : World) (o : Obj) (g j : Nat) (hg : g < w.heap.size) : (w.alloc o).cell? ⟨g, j, none⟩ = w.cell? ⟨g, j, none⟩ := World.cell?_alloc_lt _ _ _ hg
theorem frozen_late (w : World) (g k j : Nat) (h : w.heap.size ≤ g) : w.frozen? ⟨g, j, none⟩ = false := by
  have : w.heap[g]? = none := Array.getElem?_eq_none h
  simp [World.frozen?, this]
theorem pts_lit (w : World) (P : List Pt) (hp : P.length ≤ 1000000) : IsPts (w.alloc (.cells (flatP P).toArray 27)) (some ⟨w.heap.size, 0, none⟩) P.length P.length P := by
  obtain ⟨ao, cap, e, h⟩ := (OwnP.lit w w.heap.size (Nat.le_refl _) P hp).pts
  cases e
  exact h
theorem rings_one {w : World} {ao : Option Addr} {n cap g : Nat} {P : List Pt} (h : IsPts w ao n cap P) (hg : w.heap[g]? = some (.cells #[.slice ao n cap] 28 (0, 0))) : IsRings w (some ⟨g, 0, none⟩) 1 1 [P] := by
  refine ⟨rfl, Nat.le_refl _, by unfold maxLen; omega, (fun h => (by cases h)), fun k hk => ?_⟩
  obtain rfl : k = 0 := by omega
  exact ⟨g, 0, ao, n, cap, rfl, cell_of_row _ _ _ _ _ _ hg, h⟩
set_option maxRecDepth 100000 in
set_option maxHeartbeats 8000000 in
theorem RegionTiles_any (p low high : Pt) (fr tw : Int) (co : Option Addr) (m cap2 : Nat) (C : List Pt) (w : World) (h : IsPts w co m cap2 C) :
    Calls Try.prog 5 #[ptV p, ptV low, ptV high, .int .i64 fr, .int .i64 tw, .slice co m cap2] w fun e w' => e = .returned (.bool true) ∧ Below w.heap.size w w' := by
  have HI := Lib.hid h
  have HAW := Lib.hid awake_any
  have hcm := h.2.2.1
  have hnc := h.2.1
  unfold maxLen at hcm
  have HL := Lib.hid h.1
  have HV := Lib.hid Valid_any
  obtain ⟨W0, hW0⟩ : ∃ W, W = ((w.alloc (.cells #[.int .i64 p.x, .int .i64 p.y] 27)).alloc (.cells #[.int .i64 low.x, .int .i64 low.y] 27)).alloc (.cells #[.int .i64 high.x, .int .i64 high.y] 27) := ⟨_, rfl⟩
  have H0 : Hid (Trio w p low high W0) := Lib.hid (by
    rw [hW0]
    refine ⟨(Below.heap_alloc _ _ _ (by simp only [World.size_alloc]; omega)).trans ((Below.heap_alloc _ _ _ (by simp)).trans (alloc_new _ _)), (Below.heap_alloc _ _ _ (by simp)).trans (alloc_new2 _ _ _), ?_, (((Below.refl _ _).alloc (Nat.le_refl _) _).alloc (by simp) _).alloc (by simp only [World.size_alloc]; omega) _⟩
    have := alloc_new2 (w.alloc (.cells #[.int .i64 p.x, .int .i64 p.y] 27)) (.cells #[.int .i64 low.x, .int .i64 low.y] 27) (.cells #[.int .i64 high.x, .int .i64 high.y] 27)
    simpa using this)
  clear h
  unfold ptV at HV ⊢
  go_enter Try.func5, Try.ntmps5
  go_wp2_with fail
  rw [← hW0]
  clear hW0
  refine (HAW.out _).mono ?_
  rintro e w1 ⟨rfl, hb1⟩
  have H1 := Lib.hid (H0.out.step hb1)
  obtain ⟨l0, l1, _, _⟩ := pt_cells H1.out.2.1
  have hundef : ∀ b, some undef = some (Value.bool b) → False := fun b h => by injection h with h; cases h
  clear hb1
  obtain ⟨v1, hv1⟩ : ∃ v, v = validP low := ⟨_, rfl⟩
  have HV1 := Lib.hid (HV.out low)
  rw [← hv1] at HV1
  obtain ⟨v2, hv2⟩ : ∃ v, v = validP high := ⟨_, rfl⟩
  have HV2 := Lib.hid (HV.out high)
  rw [← hv2] at HV2
  have HVV := Lib.hid (And.intro hv1 hv2)
  clear hv1 hv2
  cases v1 with
  | false =>
    go_wp2_with fail
    refine (HV1.out _).mono ?_
    rintro e w2 ⟨rfl, hg2⟩
    have H2 := Lib.hid (H1.out.step hg2.1)
    clear hg2 l0 l1
    go_wp2_with fail
    all_goals first
      | (exfalso; exact hundef _ (by assumption))
      | (go_ret; exact ⟨rfl, H2.out.2.2.2⟩)
  | true =>
    go_wp2_with fail
    refine (HV1.out _).mono ?_
    rintro e w2 ⟨rfl, hg2⟩
    have H2 := Lib.hid (H1.out.step hg2.1)
    obtain ⟨m0, m1, _, _⟩ := pt_cells H2.out.2.2.1
    clear hg2 l0 l1
    cases v2 with
    | false =>
      go_wp2_with fail
      refine (HV2.out _).mono ?_
      rintro e w3 ⟨rfl, hg3⟩
      have H3 := Lib.hid (H2.out.step hg3.1)
      clear hg3 m0 m1
      go_wp2_with fail
      all_goals first
        | (exfalso; exact hundef _ (by assumption))
        | (go_ret; exact ⟨rfl, H3.out.2.2.2⟩)
    | true =>
      go_wp2_with fail
      refine (HV2.out _).mono ?_
      rintro e w3 ⟨rfl, hg3⟩
      have H3 := Lib.hid (H2.out.step hg3.1)
      obtain ⟨l0, l1, _, _⟩ := pt_cells H3.out.2.1
      obtain ⟨m0', m1', _, _⟩ := pt_cells H3.out.2.2.1
      clear hg3 m0 m1
      by_cases hx : high.x ≤ low.x
      · have t1 : decide (high.x ≤ low.x) = true := decide_eq_true hx
        clear hx
        go_wp2_with fail
        all_goals first
          | (exfalso; exact hundef _ (by assumption))
          | (go_ret; exact ⟨rfl, H3.out.2.2.2⟩)
      · have t1 : decide (high.x ≤ low.x) = false := decide_eq_false hx
        by_cases hy : high.y ≤ low.y
        · have t2 : decide (high.y ≤ low.y) = true := decide_eq_true hy
          have HX := Lib.hid hx
          clear hx hy
          go_wp2_with fail
          all_goals first
            | (exfalso; exact hundef _ (by assumption))
            | (go_ret; exact ⟨rfl, H3.out.2.2.2⟩)
        · have t2 : decide (high.y ≤ low.y) = false := decide_eq_false hy
          by_cases hm : 50 < m
          · have t3 : decide ((50 : Int) < (m : Int)) = true := decide_eq_true (by omega)
            clear hx hy
            go_wp2_with fail
            go_ret
            exact ⟨rfl, H3.out.2.2.2⟩
          · have t3 : decide ((50 : Int) < (m : Int)) = false := decide_eq_false (by omega)
            have r1 := (validP_iff low).1 HVV.out.1.symm
            have r2 := (validP_iff high).1 HVV.out.2.symm
            obtain ⟨⟨r11, r12⟩, r13, r14⟩ := r1
            obtain ⟨⟨r21, r22⟩, r23, r24⟩ := r2
            have q1 : low.x < high.x := by omega
            have q2 : low.y < high.y := by omega
            obtain ⟨wide, hwide⟩ : ∃ x, x = high.x - low.x + 1 := ⟨_, rfl⟩
            obtain ⟨tall, htall⟩ : ∃ x, x = high.y - low.y + 1 := ⟨_, rfl⟩
            have b1 : 2 ≤ wide := by omega
            have b2 : wide ≤ 2199023255551 := by omega
            have b3 : 2 ≤ tall := by omega
            have b4 : tall ≤ 2199023255551 := by omega
            have s1 : IntKind.i64.wrap (high.x - low.x) = high.x - low.x := IntWalk.i64_in _ (by omega)
            have s2 : IntKind.i64.wrap (high.x - low.x + 1) = wide := by rw [hwide]; exact IntWalk.i64_in _ (by omega)
            have s3 : IntKind.i64.wrap (high.y - low.y) = high.y - low.y := IntWalk.i64_in _ (by omega)
            have s4 : IntKind.i64.wrap (high.y - low.y + 1) = tall := by rw [htall]; exact IntWalk.i64_in _ (by omega)
            have HWT := Lib.hid (And.intro hwide htall)
            clear hx hy hwide htall
            go_wp2_with fail
            go_region
            have HP1 := Lib.hid (fun w => Pick_any fr tall w (by omega))
            have HP2 := Lib.hid (fun w => Pick_any tw tall w (by omega))
            have pr1 := pick_range (x := fr) (n := tall) (by omega)
            have pr2 := pick_range (x := tw) (n := tall) (by omega)
            obtain ⟨k1, hk1⟩ : ∃ x, x = pickP fr tall := ⟨_, rfl⟩
            obtain ⟨k2, hk2⟩ : ∃ x, x = pickP tw tall := ⟨_, rfl⟩
            rw [← hk1] at HP1 pr1
            rw [← hk2] at HP2 pr2
            obtain ⟨pr11, pr12⟩ := pr1
            obtain ⟨pr21, pr22⟩ := pr2
            obtain ⟨a, ha⟩ : ∃ a : Pt, a = ⟨low.x, low.y + k1⟩ := ⟨_, rfl⟩
            obtain ⟨b, hb⟩ : ∃ a : Pt, a = ⟨high.x, low.y + k2⟩ := ⟨_, rfl⟩
            have hax : a.x = low.x := by rw [ha]
            have hay : a.y = low.y + k1 := by rw [ha]
            have hbx : b.x = high.x := by rw [hb]
            have hby : b.y = low.y + k2 := by rw [hb]
            have s5 : IntKind.i64.wrap (low.y + k1) = low.y + k1 := IntWalk.i64_in _ (by omega)
            have s6 : IntKind.i64.wrap (low.y + k2) = low.y + k2 := IntWalk.i64_in _ (by omega)
            have HAB := Lib.hid (And.intro hax (And.intro hay (And.intro hbx hby)))
            have HAT := Lib.hid atLaw_any
            clear s1 s2 s3 s4 hk1 hk2 ha hb hax hay hbx hby
            go_wp2_with fail
            have l0' : w3.drew.cell? ⟨w.heap.size + 1, 0, none⟩ = some (.int .i64 low.x) := l0
            have l1' : w3.drew.cell? ⟨w.heap.size + 1, 1, none⟩ = some (.int .i64 low.y) := l1
            have m0'' : w3.drew.cell? ⟨w.heap.size + 1 + 1, 0, none⟩ = some (.int .i64 high.x) := m0'
            obtain ⟨W, hW⟩ : ∃ W, W = w3.drew := ⟨_, rfl⟩
            rw [← hW] at l0' l1' m0''
            try rw [← hW]
            have H4 : Hid (Trio w p low high W) := Lib.hid (by rw [hW]; exact H3.out.step ((Below.refl _ _).drew))
            have hlt : w.heap.size + 1 + 1 < W.heap.size := heap_lt' H4.out.2.2.1
            have HLT := Lib.hid hlt
            clear hW l0 l1 m0' m1' hlt t1 t2 t3
            have HAX := Lib.hid atLaw_ex
            have HCELLS : Hid (∀ wX, Below W.heap.size W wX → wX.cell? ⟨w.heap.size + 1, 0, none⟩ = some (.int .i64 low.x) ∧ wX.cell? ⟨w.heap.size + 1, 1, none⟩ = some (.int .i64 low.y) ∧ wX.cell? ⟨w.heap.size + 1 + 1, 0, none⟩ = some (.int .i64 high.x) ∧ wX.cell? ⟨w.heap.size + 1 + 1, 1, none⟩ = some (.int .i64 high.y)) := Lib.hid (fun wX hX => by
              obtain ⟨q1, q2, _, _⟩ := pt_cells ((hX.block _ (heap_lt' H4.out.2.1)).trans H4.out.2.1)
              obtain ⟨q3, q4, _, _⟩ := pt_cells ((hX.block _ (heap_lt' H4.out.2.2.1)).trans H4.out.2.2.1)
              exact ⟨q1, q2, q3, q4⟩)
            have HOK : ∀ r ∈ ([⟨0, 18, 18, some 20, [], fun V w => IsBlk W 27 #[.int .i64 0, .int .i64 0] (V 18) w⟩, ⟨1, 18, 20, none, [], fun V w => IsBlk W 27 #[.int .i64 low.x, .int .i64 (low.y + k1)] (V 18) w⟩, ⟨2, 19, 19, some 21, [], fun V w => IsBlk W 27 #[.int .i64 0, .int .i64 0] (V 19) w⟩, ⟨3, 19, 21, none, [], fun V w => IsBlk W 27 #[.int .i64 high.x, .int .i64 (low.y + k2)] (V 19) w⟩] : List Resr), ResOk W r := by
              intro r hr
              simp only [List.mem_cons, List.not_mem_nil, or_false] at hr
              rcases hr with rfl | rfl | rfl | rfl
              · exact resBlk_ok (fun _ => _) (fun _ _ _ => rfl)
              · exact resBlk_ok (fun _ => _) (fun _ _ _ => rfl)
              · exact resBlk_ok (fun _ => _) (fun _ _ _ => rfl)
              · exact resBlk_ok (fun _ => _) (fun _ _ _ => rfl)
            refine wp_region_J (s := [(65, 0), (66, 1), (67, 2), (68, 3), (69, 4), (70, 5), (71, 6), (72, 7), (73, 8), (74, 9), (75, 10), (76, 11), (77, 12), (78, 13), (79, 14), (80, 15), (81, 16), (82, 17), (16, 18), (17, 19)]) (by kernel_rfl) (ResJ W (fun iX => match iX with | 0 => some (.pointer (some ⟨w.heap.size + 1, 0, none⟩)) | 1 => some (.int .i64 (low.x)) | 2 => some (.pointer (some ⟨w.heap.size + 1, 1, none⟩)) | 3 => some (.int .i64 (low.y)) | 4 => some (.int .i64 (fr)) | 5 => some (.int .i64 (tall)) | 6 => some (.int .i64 (k1)) | 7 => some (.int .i64 (low.y + k1)) | 8 => some (.agg #[.int .i64 low.x, .int .i64 (low.y + k1)]) | 9 => some (.pointer (some ⟨w.heap.size + 1 + 1, 0, none⟩)) | 10 => some (.int .i64 (high.x)) | 11 => some (.pointer (some ⟨w.heap.size + 1, 1, none⟩)) | 12 => some (.int .i64 (low.y)) | 13 => some (.int .i64 (tw)) | 14 => some (.int .i64 (tall)) | 15 => some (.int .i64 (k2)) | 16 => some (.int .i64 (low.y + k2)) | 17 => some (.agg #[.int .i64 high.x, .int .i64 (low.y + k2)]) | _ => none) [⟨0, 18, 18, some 20, [], fun V w => IsBlk W 27 #[.int .i64 0, .int .i64 0] (V 18) w⟩, ⟨1, 18, 20, none, [], fun V w => IsBlk W 27 #[.int .i64 low.x, .int .i64 (low.y + k1)] (V 18) w⟩, ⟨2, 19, 19, some 21, [], fun V w => IsBlk W 27 #[.int .i64 0, .int .i64 0] (V 19) w⟩, ⟨3, 19, 21, none, [], fun V w => IsBlk W 27 #[.int .i64 high.x, .int .i64 (low.y + k2)] (V 19) w⟩]) (by kernel_rfl) (by kernel_rfl) (by kernel_rfl) (by kernel_rfl) (fun _ => undef) ?start5 ?step5 ?done5
            case start5 => exact ResJ.start ((Below.refl _ _).drew) (by kernel_rfl)
            case step5 =>
              refine ⟨?o5_0, ?o5_1, ?o5_2, ?o5_3, ?o5_4, ?o5_5, ?o5_6, ?o5_7, ?o5_8, ?o5_9, ?o5_10, ?o5_11, ?o5_12, ?o5_13, ?o5_14, ?o5_15, ?o5_16, ?o5_17, ?o5_18, ?o5_19, ?o5_20, ?o5_21, trivial⟩
              case o5_0 =>
                intro LX V aX wX K hl hp hcl hf hJ hK
                have t7 : aX.tmps[7]? = some (.pointer (some ⟨w.heap.size + 1, 0, none⟩)) := hf.old (by kernel_rfl) rfl
                rw [if_pos (by rfl)]
                go_simp
                exact hK _ _ (hJ.val HOK 0 _ hl (by kernel_rfl) (by kernel_rfl) rfl (Below.refl _ _))
              case o5_1 =>
                intro LX V aX wX K hl hp hcl hf hJ hK
                have t65 := hf.in (i := 0) (d := 65) (by kernel_rfl) (hp 0 (by kernel_rfl)) (hJ.vals 0 _ rfl (hp 0 (by kernel_rfl)))
                obtain ⟨c0, c1, c2, c3⟩ := HCELLS.out wX hJ.below
                rw [if_pos (by rfl)]
                go_simp
                exact hK _ _ (hJ.val HOK 1 _ hl (by kernel_rfl) (by kernel_rfl) rfl (Below.refl _ _))
              case o5_2 =>
                intro LX V aX wX K hl hp hcl hf hJ hK
                have t7 : aX.tmps[7]? = some (.pointer (some ⟨w.heap.size + 1, 0, none⟩)) := hf.old (by kernel_rfl) rfl
                rw [if_pos (by rfl)]
                go_simp
                exact hK _ _ (hJ.val HOK 2 _ hl (by kernel_rfl) (by kernel_rfl) rfl (Below.refl _ _))
              case o5_3 =>
                intro LX V aX wX K hl hp hcl hf hJ hK
                have t67 := hf.in (i := 2) (d := 67) (by kernel_rfl) (hp 2 (by kernel_rfl)) (hJ.vals 2 _ rfl (hp 2 (by kernel_rfl)))
                obtain ⟨c0, c1, c2, c3⟩ := HCELLS.out wX hJ.below
                rw [if_pos (by rfl)]
                go_simp
                exact hK _ _ (hJ.val HOK 3 _ hl (by kernel_rfl) (by kernel_rfl) rfl (Below.refl _ _))
              case o5_4 =>
                intro LX V aX wX K hl hp hcl hf hJ hK
                have t3 : aX.tmps[3]? = some (.int .i64 (fr)) := hf.old (by kernel_rfl) rfl
                rw [if_pos (by rfl)]
                go_simp
                exact hK _ _ (hJ.val HOK 4 _ hl (by kernel_rfl) (by kernel_rfl) rfl (Below.refl _ _))
              case o5_5 =>
                intro LX V aX wX K hl hp hcl hf hJ hK
                have t15 : aX.tmps[15]? = some (.int .i64 (tall)) := hf.old (by kernel_rfl) rfl
                rw [if_pos (by rfl)]
                go_simp
                exact hK _ _ (hJ.val HOK 5 _ hl (by kernel_rfl) (by kernel_rfl) rfl (Below.refl _ _))
              case o5_6 =>
                intro LX V aX wX K hl hp hcl hf hJ hK
                have t69 := hf.in (i := 4) (d := 69) (by kernel_rfl) (hp 4 (by kernel_rfl)) (hJ.vals 4 _ rfl (hp 4 (by kernel_rfl)))
                have t70 := hf.in (i := 5) (d := 70) (by kernel_rfl) (hp 5 (by kernel_rfl)) (hJ.vals 5 _ rfl (hp 5 (by kernel_rfl)))
                rw [if_pos (by rfl)]
                go_simp
                refine (HP1.out _).mono ?_
                rintro e wA ⟨rfl, rfl⟩
                exact hK _ _ (hJ.val HOK 6 _ hl (by kernel_rfl) (by kernel_rfl) rfl (Below.refl _ _))
              case o5_7 =>
                intro LX V aX wX K hl hp hcl hf hJ hK
                have t68 := hf.in (i := 3) (d := 68) (by kernel_rfl) (hp 3 (by kernel_rfl)) (hJ.vals 3 _ rfl (hp 3 (by kernel_rfl)))
                have t71 := hf.in (i := 6) (d := 71) (by kernel_rfl) (hp 6 (by kernel_rfl)) (hJ.vals 6 _ rfl (hp 6 (by kernel_rfl)))
                rw [if_pos (by rfl)]
                go_simp
                exact hK _ _ (hJ.val HOK 7 _ hl (by kernel_rfl) (by kernel_rfl) rfl (Below.refl _ _))
              case o5_8 =>
                intro LX V aX wX K hl hp hcl hf hJ hK
                have t66 := hf.in (i := 1) (d := 66) (by kernel_rfl) (hp 1 (by kernel_rfl)) (hJ.vals 1 _ rfl (hp 1 (by kernel_rfl)))
                have t72 := hf.in (i := 7) (d := 72) (by kernel_rfl) (hp 7 (by kernel_rfl)) (hJ.vals 7 _ rfl (hp 7 (by kernel_rfl)))
                rw [if_pos (by rfl)]
                go_simp
                refine (HAT.out _ _ _).mono ?_
                rintro e wA ⟨rfl, hgA⟩
                exact hK _ _ (hJ.val HOK 8 _ hl (by kernel_rfl) (by kernel_rfl) rfl (hgA.1))
              case o5_9 =>
                intro LX V aX wX K hl hp hcl hf hJ hK
                have t8 : aX.tmps[8]? = some (.pointer (some ⟨w.heap.size + 1 + 1, 0, none⟩)) := hf.old (by kernel_rfl) rfl
                rw [if_pos (by rfl)]
                go_simp
                exact hK _ _ (hJ.val HOK 9 _ hl (by kernel_rfl) (by kernel_rfl) rfl (Below.refl _ _))
              case o5_10 =>
                intro LX V aX wX K hl hp hcl hf hJ hK
                have t74 := hf.in (i := 9) (d := 74) (by kernel_rfl) (hp 9 (by kernel_rfl)) (hJ.vals 9 _ rfl (hp 9 (by kernel_rfl)))
                obtain ⟨c0, c1, c2, c3⟩ := HCELLS.out wX hJ.below
                rw [if_pos (by rfl)]
                go_simp
                exact hK _ _ (hJ.val HOK 10 _ hl (by kernel_rfl) (by kernel_rfl) rfl (Below.refl _ _))
              case o5_11 =>
                intro LX V aX wX K hl hp hcl hf hJ hK
                have t7 : aX.tmps[7]? = some (.pointer (some ⟨w.heap.size + 1, 0, none⟩)) := hf.old (by kernel_rfl) rfl
                rw [if_pos (by rfl)]
                go_simp
                exact hK _ _ (hJ.val HOK 11 _ hl (by kernel_rfl) (by kernel_rfl) rfl (Below.refl _ _))
              case o5_12 =>
                intro LX V aX wX K hl hp hcl hf hJ hK
                have t76 := hf.in (i := 11) (d := 76) (by kernel_rfl) (hp 11 (by kernel_rfl)) (hJ.vals 11 _ rfl (hp 11 (by kernel_rfl)))
                obtain ⟨c0, c1, c2, c3⟩ := HCELLS.out wX hJ.below
                rw [if_pos (by rfl)]
                go_simp
                exact hK _ _ (hJ.val HOK 12 _ hl (by kernel_rfl) (by kernel_rfl) rfl (Below.refl _ _))
              case o5_13 =>
                intro LX V aX wX K hl hp hcl hf hJ hK
                have t4 : aX.tmps[4]? = some (.int .i64 (tw)) := hf.old (by kernel_rfl) rfl
                rw [if_pos (by rfl)]
                go_simp
                exact hK _ _ (hJ.val HOK 13 _ hl (by kernel_rfl) (by kernel_rfl) rfl (Below.refl _ _))
              case o5_14 =>
                intro LX V aX wX K hl hp hcl hf hJ hK
                have t15 : aX.tmps[15]? = some (.int .i64 (tall)) := hf.old (by kernel_rfl) rfl
                rw [if_pos (by rfl)]
                go_simp
                exact hK _ _ (hJ.val HOK 14 _ hl (by kernel_rfl) (by kernel_rfl) rfl (Below.refl _ _))
              case o5_15 =>
                intro LX V aX wX K hl hp hcl hf hJ hK
                have t78 := hf.in (i := 13) (d := 78) (by kernel_rfl) (hp 13 (by kernel_rfl)) (hJ.vals 13 _ rfl (hp 13 (by kernel_rfl)))
                have t79 := hf.in (i := 14) (d := 79) (by kernel_rfl) (hp 14 (by kernel_rfl)) (hJ.vals 14 _ rfl (hp 14 (by kernel_rfl)))
                rw [if_pos (by rfl)]
                go_simp
                refine (HP2.out _).mono ?_
                rintro e wA ⟨rfl, rfl⟩
                exact hK _ _ (hJ.val HOK 15 _ hl (by kernel_rfl) (by kernel_rfl) rfl (Below.refl _ _))
              case o5_16 =>
                intro LX V aX wX K hl hp hcl hf hJ hK
                have t77 := hf.in (i := 12) (d := 77) (by kernel_rfl) (hp 12 (by kernel_rfl)) (hJ.vals 12 _ rfl (hp 12 (by kernel_rfl)))
                have t80 := hf.in (i := 15) (d := 80) (by kernel_rfl) (hp 15 (by kernel_rfl)) (hJ.vals 15 _ rfl (hp 15 (by kernel_rfl)))
                rw [if_pos (by rfl)]
                go_simp
                exact hK _ _ (hJ.val HOK 16 _ hl (by kernel_rfl) (by kernel_rfl) rfl (Below.refl _ _))
              case o5_17 =>
                intro LX V aX wX K hl hp hcl hf hJ hK
                have t75 := hf.in (i := 10) (d := 75) (by kernel_rfl) (hp 10 (by kernel_rfl)) (hJ.vals 10 _ rfl (hp 10 (by kernel_rfl)))
                have t81 := hf.in (i := 16) (d := 81) (by kernel_rfl) (hp 16 (by kernel_rfl)) (hJ.vals 16 _ rfl (hp 16 (by kernel_rfl)))
                rw [if_pos (by rfl)]
                go_simp
                refine (HAT.out _ _ _).mono ?_
                rintro e wA ⟨rfl, hgA⟩
                exact hK _ _ (hJ.val HOK 17 _ hl (by kernel_rfl) (by kernel_rfl) rfl (hgA.1))
              case o5_18 =>
                intro LX V aX wX K hl hp hcl hf hJ hK
                rw [if_pos (by rfl)]
                go_simp
                exact hK _ _ (hJ.step HOK 18 _ hl (by kernel_rfl) trivial none (World.grownBy_alloc _ _ _) (.inl rfl) (new_one (by kernel_rfl) ⟨0, 18, 18, some 20, [], fun V w => IsBlk W 27 #[.int .i64 0, .int .i64 0] (V 18) w⟩ (List.mem_of_getElem? (i := 0) rfl) rfl ⟨(fun j hj => by rcases hj with rfl | hj; exact .inl rfl; cases hj), ⟨_, upd_at _ _ _, hJ.below.size, alloc_new0 _ _⟩, fun g hg => .inl (by rw [upd_at] at hg; cases hg; exact Nat.le_refl _)⟩))
              case o5_19 =>
                intro LX V aX wX K hl hp hcl hf hJ hK
                rw [if_pos (by rfl)]
                go_simp
                exact hK _ _ (hJ.step HOK 19 _ hl (by kernel_rfl) trivial none (World.grownBy_alloc _ _ _) (.inl rfl) (new_one (by kernel_rfl) ⟨2, 19, 19, some 21, [], fun V w => IsBlk W 27 #[.int .i64 0, .int .i64 0] (V 19) w⟩ (List.mem_of_getElem? (i := 2) rfl) rfl ⟨(fun j hj => by rcases hj with rfl | hj; exact .inl rfl; cases hj), ⟨_, upd_at _ _ _, hJ.below.size, alloc_new0 _ _⟩, fun g hg => .inl (by rw [upd_at] at hg; cases hg; exact Nat.le_refl _)⟩))
              case o5_20 =>
                intro LX V aX wX K hl hp hcl hf hJ hK
                have t16 := hf.in (i := 18) (d := 16) (by kernel_rfl) (hp 18 (by kernel_rfl)) rfl
                have t73 := hf.in (i := 8) (d := 73) (by kernel_rfl) (hp 8 (by kernel_rfl)) (hJ.vals 8 _ rfl (hp 8 (by kernel_rfl)))
                rw [if_pos (by rfl)]
                have hq0 := hJ.at ⟨0, 18, 18, some 20, [], fun V w => IsBlk W 27 #[.int .i64 0, .int .i64 0] (V 18) w⟩ (List.mem_of_getElem? (i := 0) rfl) (lor (hp 18 (by kernel_rfl))) hl
                obtain ⟨g, hg, hg1, hg2⟩ := hq0
                have tp := t16
                try simp only at hg
                rw [hg] at tp
                refine wp_store_row _ _ _ rfl g #[.int .i64 low.x, .int .i64 (low.y + k1)] (by simp [Act.eval, tp]) (by simp [Act.eval, t73]) _ _ hg2 (by kernel_rfl) rfl (by kernel_rfl) ?_
                exact hK _ _ (hJ.step HOK 20 _ hl (by kernel_rfl) trivial (some g) (grown_setRow _ _ _) (.inr ⟨⟨0, 18, 18, some 20, [], fun V w => IsBlk W 27 #[.int .i64 0, .int .i64 0] (V 18) w⟩, List.mem_of_getElem? (i := 0) rfl, rfl, lor (hp 18 (by kernel_rfl)), by (try simp only); rw [hg]; rfl⟩) (new_one (by kernel_rfl) ⟨1, 18, 20, none, [], fun V w => IsBlk W 27 #[.int .i64 low.x, .int .i64 (low.y + k1)] (V 18) w⟩ (List.mem_of_getElem? (i := 1) rfl) rfl ⟨(fun j hj => by rcases hj with rfl | hj; exact .inr (hp 18 (by kernel_rfl)); cases hj), ⟨g, (upd_ne _ _ _ _ (by decide)).trans hg, hg1, setRow_heap _ _ _ _ _ _ hg2⟩, fun g' hg' => .inr (by simp only at hg'; rw [upd_ne _ _ _ _ (by decide), hg] at hg'; exact hg')⟩))
              case o5_21 =>
                intro LX V aX wX K hl hp hcl hf hJ hK
                have t17 := hf.in (i := 19) (d := 17) (by kernel_rfl) (hp 19 (by kernel_rfl)) rfl
                have t82 := hf.in (i := 17) (d := 82) (by kernel_rfl) (hp 17 (by kernel_rfl)) (hJ.vals 17 _ rfl (hp 17 (by kernel_rfl)))
                rw [if_pos (by rfl)]
                have hq0 := hJ.at ⟨2, 19, 19, some 21, [], fun V w => IsBlk W 27 #[.int .i64 0, .int .i64 0] (V 19) w⟩ (List.mem_of_getElem? (i := 2) rfl) (lor (hp 19 (by kernel_rfl))) hl
                obtain ⟨g, hg, hg1, hg2⟩ := hq0
                have tp := t17
                try simp only at hg
                rw [hg] at tp
                refine wp_store_row _ _ _ rfl g #[.int .i64 high.x, .int .i64 (low.y + k2)] (by simp [Act.eval, tp]) (by simp [Act.eval, t82]) _ _ hg2 (by kernel_rfl) rfl (by kernel_rfl) ?_
                exact hK _ _ (hJ.step HOK 21 _ hl (by kernel_rfl) trivial (some g) (grown_setRow _ _ _) (.inr ⟨⟨2, 19, 19, some 21, [], fun V w => IsBlk W 27 #[.int .i64 0, .int .i64 0] (V 19) w⟩, List.mem_of_getElem? (i := 2) rfl, rfl, lor (hp 19 (by kernel_rfl)), by (try simp only); rw [hg]; rfl⟩) (new_one (by kernel_rfl) ⟨3, 19, 21, none, [], fun V w => IsBlk W 27 #[.int .i64 high.x, .int .i64 (low.y + k2)] (V 19) w⟩ (List.mem_of_getElem? (i := 3) rfl) rfl ⟨(fun j hj => by rcases hj with rfl | hj; exact .inr (hp 19 (by kernel_rfl)); cases hj), ⟨g, (upd_ne _ _ _ _ (by decide)).trans hg, hg1, setRow_heap _ _ _ _ _ _ hg2⟩, fun g' hg' => .inr (by simp only at hg'; rw [upd_ne _ _ _ _ (by decide), hg] at hg'; exact hg')⟩))
            intro V wC hJ
            have hqa := hJ.at ⟨1, 18, 20, none, [], fun V w => IsBlk W 27 #[.int .i64 low.x, .int .i64 (low.y + k1)] (V 18) w⟩ (List.mem_of_getElem? (i := 1) rfl) (by kernel_rfl) trivial
            have hqb := hJ.at ⟨3, 19, 21, none, [], fun V w => IsBlk W 27 #[.int .i64 high.x, .int .i64 (low.y + k2)] (V 19) w⟩ (List.mem_of_getElem? (i := 3) rfl) (by kernel_rfl) trivial
            obtain ⟨ga, hva, _, hga⟩ := hqa
            obtain ⟨gb, hvb, _, hgb⟩ := hqb
            have HB5 := Lib.hid hJ.below
            try simp only at hva hvb
            simp only [puts, Act.put, List.setIfInBounds_toArray, List.set_cons_zero, List.set_cons_succ]
            rw [hva, hvb]
            have H5 := Lib.hid (H4.out.step HB5.out)
            have HGB : Hid (wC.heap[gb]? = some (.cells #[.int .i64 b.x, .int .i64 b.y] 27 (0, 0))) := Lib.hid (by rw [HAB.out.2.2.1, HAB.out.2.2.2]; exact hgb)
            have hga2 : wC.heap[ga]? = some (.cells #[.int .i64 a.x, .int .i64 a.y] 27 (0, 0)) := by rw [HAB.out.1, HAB.out.2.1]; exact hga
            obtain ⟨qa0, qa1, _, _⟩ := pt_cells hga2
            clear hJ hva hvb hga hgb HOK hga2 HCELLS l0' l1' m0'' s5 s6
            go_wp2_with fail
            clear qa0 qa1
            have HST : Hid (OwnP (wC.alloc (.cells #[.int .i64 a.x, .int .i64 a.y] 27)) wC.heap.size (.slice (some ⟨wC.heap.size, 0, none⟩) 1 1) [a]) := Lib.hid (OwnP.lit wC _ (Nat.le_refl _) [a] (by simp))
            go_loopw [18, 19] (fun v i wr => ∃ k : Nat, k ≤ m ∧ i = .int .i64 k ∧ Hid (OwnP wr wC.heap.size v (lineP low wide tall a C k)) ∧ Hid (Below wC.heap.size wC wr)) (fun _ i _ => m - (intOf i).toNat)
            case atStart => exact ⟨0, by omega, rfl, HST, Lib.hid ((Below.refl _ _).alloc (Nat.le_refl _) _)⟩
            case round =>
              obtain ⟨k, hk, rfl, hown, hbl⟩ := hrel
              by_cases hlt : k < m
              · have hi0 : (0 : Int) ≤ (k : Int) := by omega
                have hi5 : (k : Int) < (m : Int) := by omega
                obtain ⟨b2, off2, rfl, e0, e1⟩ := (HI.out.later H5.out.2.2.2 (Nat.le_refl _)).at hlt
                obtain ⟨c, hc⟩ : ∃ c, c = C.getD k p0 := ⟨_, rfl⟩
                rw [← hc] at e0 e1
                have HSU : Hid (lineP low wide tall a C (k + 1) = lineP low wide tall a C k ++ [tileP low wide tall c]) := Lib.hid (by rw [hc]; exact lineP_succ (by rw [HL.out]; exact hlt))
                have HLN : Hid ((lineP low wide tall a C k).length + 1 ≤ 1000000000) := Lib.hid (by rw [lineP_len (by rw [HL.out]; exact hk)]; omega)
                obtain ⟨L, hL⟩ : ∃ L, L = lineP low wide tall a C k := ⟨_, rfl⟩
                rw [← hL] at hown HSU HLN
                have HP1 := Lib.hid (fun w => Pick_any c.x wide w (by omega))
                have HP2 := Lib.hid (fun w => Pick_any c.y tall w (by omega))
                have ur1 := pick_range' (x := c.x) (n := wide) (by omega)
                have ur2 := pick_range' (x := c.y) (n := tall) (by omega)
                unfold tileP at HSU
                obtain ⟨u1, hu1⟩ : ∃ x, x = pickP c.x wide := ⟨_, rfl⟩
                obtain ⟨u2, hu2⟩ : ∃ x, x = pickP c.y tall := ⟨_, rfl⟩
                rw [← hu1] at HP1 ur1 HSU
                rw [← hu2] at HP2 ur2 HSU
                have s7 : IntKind.i64.wrap (low.x + u1) = low.x + u1 := IntWalk.i64_in _ (by omega)
                have s8 : IntKind.i64.wrap (low.y + u2) = low.y + u2 := IntWalk.i64_in _ (by omega)
                have HCELLS : Hid (∀ wX, Below wC.heap.size wC wX → wX.cell? ⟨w.heap.size + 1, 0, none⟩ = some (.int .i64 low.x) ∧ wX.cell? ⟨w.heap.size + 1, 1, none⟩ = some (.int .i64 low.y) ∧ wX.cell? ⟨b2, off2 + k * 2, none⟩ = some (.int .i64 c.x) ∧ wX.cell? ⟨b2, off2 + k * 2 + 1, none⟩ = some (.int .i64 c.y)) := Lib.hid (fun wX hX => by
                  obtain ⟨q1, q2, _, _⟩ := pt_cells ((hX.block _ (heap_lt' H5.out.2.1)).trans H5.out.2.1)
                  exact ⟨q1, q2, (hX.cell (p := ⟨b2, off2 + k * 2, none⟩) (block_lt_of_cell e0)).trans e0, (hX.cell (p := ⟨b2, off2 + k * 2 + 1, none⟩) (block_lt_of_cell e1)).trans e1⟩)
                clear hc hL hu1 hu2 e0 e1
                go_wp2_with fail
                have HOK : ∀ r ∈ ([⟨0, 1000, 1000, some 23, [], fun V w => V 1000 = u18 ∧ OwnP w wC.heap.size (V 1000) L⟩, ⟨1, 22, 22, some 23, [], fun V w => OwnP w wC.heap.size (V 22) [⟨low.x + u1, low.y + u2⟩]⟩, ⟨2, 23, 23, some 24, [], fun V w => OwnP w wC.heap.size (V 23) (L ++ [⟨low.x + u1, low.y + u2⟩])⟩, ⟨3, 24, 24, none, [], fun V w => OwnP w wC.heap.size (V 24) (L ++ [⟨low.x + u1, low.y + u2⟩])⟩] : List Resr), ResOk wC r := by
                  intro r hr
                  simp only [List.mem_cons, List.not_mem_nil, or_false] at hr
                  rcases hr with rfl | rfl | rfl | rfl
                  · exact resPtsAt_ok _ _
                  · exact resPts_ok _
                  · exact resPts_ok _
                  · exact resPts_ok _
                refine wp_region_J (s := [(91, 0), (92, 1), (93, 2), (94, 3), (95, 4), (96, 5), (97, 6), (98, 7), (99, 8), (100, 9), (101, 10), (102, 11), (103, 12), (104, 13), (105, 14), (106, 15), (107, 16), (108, 17), (109, 18), (110, 19), (111, 20), (112, 21), (113, 22), (114, 23), (18, 24)]) (by kernel_rfl) (ResJ wC (fun iX => match iX with | 0 => some (u18) | 1 => some (.pointer (some ⟨w.heap.size + 1, 0, none⟩)) | 2 => some (.int .i64 (low.x)) | 3 => some (.slice (some ⟨b2, off2, none⟩) m cap2) | 4 => some (.int .i64 (k : Int)) | 5 => some (.pointer (some ⟨b2, off2 + k * 2, none⟩)) | 6 => some (.pointer (some ⟨b2, off2 + k * 2, none⟩)) | 7 => some (.int .i64 (c.x)) | 8 => some (.int .i64 (wide)) | 9 => some (.int .i64 (u1)) | 10 => some (.int .i64 (low.x + u1)) | 11 => some (.pointer (some ⟨w.heap.size + 1, 1, none⟩)) | 12 => some (.int .i64 (low.y)) | 13 => some (.slice (some ⟨b2, off2, none⟩) m cap2) | 14 => some (.int .i64 (k : Int)) | 15 => some (.pointer (some ⟨b2, off2 + k * 2, none⟩)) | 16 => some (.pointer (some ⟨b2, off2 + k * 2 + 1, none⟩)) | 17 => some (.int .i64 (c.y)) | 18 => some (.int .i64 (tall)) | 19 => some (.int .i64 (u2)) | 20 => some (.int .i64 (low.y + u2)) | 21 => some (.agg #[.int .i64 (low.x + u1), .int .i64 (low.y + u2)]) | _ => none) [⟨0, 1000, 1000, some 23, [], fun V w => V 1000 = u18 ∧ OwnP w wC.heap.size (V 1000) L⟩, ⟨1, 22, 22, some 23, [], fun V w => OwnP w wC.heap.size (V 22) [⟨low.x + u1, low.y + u2⟩]⟩, ⟨2, 23, 23, some 24, [], fun V w => OwnP w wC.heap.size (V 23) (L ++ [⟨low.x + u1, low.y + u2⟩])⟩, ⟨3, 24, 24, none, [], fun V w => OwnP w wC.heap.size (V 24) (L ++ [⟨low.x + u1, low.y + u2⟩])⟩]) (by kernel_rfl) (by kernel_rfl) (by kernel_rfl) (by kernel_rfl) (fun _ => u18) ?start10 ?step10 ?done10
                case start10 => exact ResJ.start1 (hbl.out.drew) _ _ rfl (by kernel_rfl) (⟨rfl, hown.out⟩)
                case step10 =>
                  refine ⟨?o10_0, ?o10_1, ?o10_2, ?o10_3, ?o10_4, ?o10_5, ?o10_6, ?o10_7, ?o10_8, ?o10_9, ?o10_10, ?o10_11, ?o10_12, ?o10_13, ?o10_14, ?o10_15, ?o10_16, ?o10_17, ?o10_18, ?o10_19, ?o10_20, ?o10_21, ?o10_22, ?o10_23, ?o10_24, trivial⟩
                  case o10_0 =>
                    intro LX V aX wX K hl hp hcl hf hJ hK
                    have t18 := hf.still (t := 18) (v := u18) 24 (by kernel_rfl) (hcl.no 24 (by kernel_rfl) hl) rfl
                    rw [if_pos (by rfl)]
                    go_simp
                    exact hK _ _ (hJ.val HOK 0 _ hl (by kernel_rfl) (by kernel_rfl) rfl (Below.refl _ _))
                  case o10_1 =>
                    intro LX V aX wX K hl hp hcl hf hJ hK
                    have t7 : aX.tmps[7]? = some (.pointer (some ⟨w.heap.size + 1, 0, none⟩)) := hf.old (by kernel_rfl) rfl
                    rw [if_pos (by rfl)]
                    go_simp
                    exact hK _ _ (hJ.val HOK 1 _ hl (by kernel_rfl) (by kernel_rfl) rfl (Below.refl _ _))
                  case o10_2 =>
                    intro LX V aX wX K hl hp hcl hf hJ hK
                    have t92 := hf.in (i := 1) (d := 92) (by kernel_rfl) (hp 1 (by kernel_rfl)) (hJ.vals 1 _ rfl (hp 1 (by kernel_rfl)))
                    obtain ⟨c0, c1, c2, c3⟩ := HCELLS.out wX hJ.below
                    rw [if_pos (by rfl)]
                    go_simp
                    exact hK _ _ (hJ.val HOK 2 _ hl (by kernel_rfl) (by kernel_rfl) rfl (Below.refl _ _))
                  case o10_3 =>
                    intro LX V aX wX K hl hp hcl hf hJ hK
                    have t5 : aX.tmps[5]? = some (.slice (some ⟨b2, off2, none⟩) m cap2) := hf.old (by kernel_rfl) rfl
                    rw [if_pos (by rfl)]
                    go_simp
                    exact hK _ _ (hJ.val HOK 3 _ hl (by kernel_rfl) (by kernel_rfl) rfl (Below.refl _ _))
                  case o10_4 =>
                    intro LX V aX wX K hl hp hcl hf hJ hK
                    have t19 : aX.tmps[19]? = some (.int .i64 (k : Int)) := hf.old (by kernel_rfl) rfl
                    rw [if_pos (by rfl)]
                    go_simp
                    exact hK _ _ (hJ.val HOK 4 _ hl (by kernel_rfl) (by kernel_rfl) rfl (Below.refl _ _))
                  case o10_5 =>
                    intro LX V aX wX K hl hp hcl hf hJ hK
                    have t94 := hf.in (i := 3) (d := 94) (by kernel_rfl) (hp 3 (by kernel_rfl)) (hJ.vals 3 _ rfl (hp 3 (by kernel_rfl)))
                    have t95 := hf.in (i := 4) (d := 95) (by kernel_rfl) (hp 4 (by kernel_rfl)) (hJ.vals 4 _ rfl (hp 4 (by kernel_rfl)))
                    rw [if_pos (by rfl)]
                    go_simp
                    exact hK _ _ (hJ.val HOK 5 _ hl (by kernel_rfl) (by kernel_rfl) rfl (Below.refl _ _))
                  case o10_6 =>
                    intro LX V aX wX K hl hp hcl hf hJ hK
                    have t96 := hf.in (i := 5) (d := 96) (by kernel_rfl) (hp 5 (by kernel_rfl)) (hJ.vals 5 _ rfl (hp 5 (by kernel_rfl)))
                    rw [if_pos (by rfl)]
                    go_simp
                    exact hK _ _ (hJ.val HOK 6 _ hl (by kernel_rfl) (by kernel_rfl) rfl (Below.refl _ _))
                  case o10_7 =>
                    intro LX V aX wX K hl hp hcl hf hJ hK
                    have t97 := hf.in (i := 6) (d := 97) (by kernel_rfl) (hp 6 (by kernel_rfl)) (hJ.vals 6 _ rfl (hp 6 (by kernel_rfl)))
                    obtain ⟨c0, c1, c2, c3⟩ := HCELLS.out wX hJ.below
                    rw [if_pos (by rfl)]
                    go_simp
                    exact hK _ _ (hJ.val HOK 7 _ hl (by kernel_rfl) (by kernel_rfl) rfl (Below.refl _ _))
                  case o10_8 =>
                    intro LX V aX wX K hl hp hcl hf hJ hK
                    have t14 : aX.tmps[14]? = some (.int .i64 (wide)) := hf.old (by kernel_rfl) rfl
                    rw [if_pos (by rfl)]
                    go_simp
                    exact hK _ _ (hJ.val HOK 8 _ hl (by kernel_rfl) (by kernel_rfl) rfl (Below.refl _ _))
                  case o10_9 =>
                    intro LX V aX wX K hl hp hcl hf hJ hK
                    have t98 := hf.in (i := 7) (d := 98) (by kernel_rfl) (hp 7 (by kernel_rfl)) (hJ.vals 7 _ rfl (hp 7 (by kernel_rfl)))
                    have t99 := hf.in (i := 8) (d := 99) (by kernel_rfl) (hp 8 (by kernel_rfl)) (hJ.vals 8 _ rfl (hp 8 (by kernel_rfl)))
                    rw [if_pos (by rfl)]
                    go_simp
                    refine (HP1.out _).mono ?_
                    rintro e wA ⟨rfl, rfl⟩
                    exact hK _ _ (hJ.val HOK 9 _ hl (by kernel_rfl) (by kernel_rfl) rfl (Below.refl _ _))
                  case o10_10 =>
                    intro LX V aX wX K hl hp hcl hf hJ hK
                    have t93 := hf.in (i := 2) (d := 93) (by kernel_rfl) (hp 2 (by kernel_rfl)) (hJ.vals 2 _ rfl (hp 2 (by kernel_rfl)))
                    have t100 := hf.in (i := 9) (d := 100) (by kernel_rfl) (hp 9 (by kernel_rfl)) (hJ.vals 9 _ rfl (hp 9 (by kernel_rfl)))
                    rw [if_pos (by rfl)]
                    go_simp
                    exact hK _ _ (hJ.val HOK 10 _ hl (by kernel_rfl) (by kernel_rfl) rfl (Below.refl _ _))
                  case o10_11 =>
                    intro LX V aX wX K hl hp hcl hf hJ hK
                    have t7 : aX.tmps[7]? = some (.pointer (some ⟨w.heap.size + 1, 0, none⟩)) := hf.old (by kernel_rfl) rfl
                    rw [if_pos (by rfl)]
                    go_simp
                    exact hK _ _ (hJ.val HOK 11 _ hl (by kernel_rfl) (by kernel_rfl) rfl (Below.refl _ _))
                  case o10_12 =>
                    intro LX V aX wX K hl hp hcl hf hJ hK
                    have t102 := hf.in (i := 11) (d := 102) (by kernel_rfl) (hp 11 (by kernel_rfl)) (hJ.vals 11 _ rfl (hp 11 (by kernel_rfl)))
                    obtain ⟨c0, c1, c2, c3⟩ := HCELLS.out wX hJ.below
                    rw [if_pos (by rfl)]
                    go_simp
                    exact hK _ _ (hJ.val HOK 12 _ hl (by kernel_rfl) (by kernel_rfl) rfl (Below.refl _ _))
                  case o10_13 =>
                    intro LX V aX wX K hl hp hcl hf hJ hK
                    have t5 : aX.tmps[5]? = some (.slice (some ⟨b2, off2, none⟩) m cap2) := hf.old (by kernel_rfl) rfl
                    rw [if_pos (by rfl)]
                    go_simp
                    exact hK _ _ (hJ.val HOK 13 _ hl (by kernel_rfl) (by kernel_rfl) rfl (Below.refl _ _))
                  case o10_14 =>
                    intro LX V aX wX K hl hp hcl hf hJ hK
                    have t19 : aX.tmps[19]? = some (.int .i64 (k : Int)) := hf.old (by kernel_rfl) rfl
                    rw [if_pos (by rfl)]
                    go_simp
                    exact hK _ _ (hJ.val HOK 14 _ hl (by kernel_rfl) (by kernel_rfl) rfl (Below.refl _ _))
                  case o10_15 =>
                    intro LX V aX wX K hl hp hcl hf hJ hK
                    have t104 := hf.in (i := 13) (d := 104) (by kernel_rfl) (hp 13 (by kernel_rfl)) (hJ.vals 13 _ rfl (hp 13 (by kernel_rfl)))
                    have t105 := hf.in (i := 14) (d := 105) (by kernel_rfl) (hp 14 (by kernel_rfl)) (hJ.vals 14 _ rfl (hp 14 (by kernel_rfl)))
                    rw [if_pos (by rfl)]
                    go_simp
                    exact hK _ _ (hJ.val HOK 15 _ hl (by kernel_rfl) (by kernel_rfl) rfl (Below.refl _ _))
                  case o10_16 =>
                    intro LX V aX wX K hl hp hcl hf hJ hK
                    have t106 := hf.in (i := 15) (d := 106) (by kernel_rfl) (hp 15 (by kernel_rfl)) (hJ.vals 15 _ rfl (hp 15 (by kernel_rfl)))
                    rw [if_pos (by rfl)]
                    go_simp
                    exact hK _ _ (hJ.val HOK 16 _ hl (by kernel_rfl) (by kernel_rfl) rfl (Below.refl _ _))
                  case o10_17 =>
                    intro LX V aX wX K hl hp hcl hf hJ hK
                    have t107 := hf.in (i := 16) (d := 107) (by kernel_rfl) (hp 16 (by kernel_rfl)) (hJ.vals 16 _ rfl (hp 16 (by kernel_rfl)))
                    obtain ⟨c0, c1, c2, c3⟩ := HCELLS.out wX hJ.below
                    rw [if_pos (by rfl)]
                    go_simp
                    exact hK _ _ (hJ.val HOK 17 _ hl (by kernel_rfl) (by kernel_rfl) rfl (Below.refl _ _))
                  case o10_18 =>
                    intro LX V aX wX K hl hp hcl hf hJ hK
                    have t15 : aX.tmps[15]? = some (.int .i64 (tall)) := hf.old (by kernel_rfl) rfl
                    rw [if_pos (by rfl)]
                    go_simp
                    exact hK _ _ (hJ.val HOK 18 _ hl (by kernel_rfl) (by kernel_rfl) rfl (Below.refl _ _))
                  case o10_19 =>
                    intro LX V aX wX K hl hp hcl hf hJ hK
                    have t108 := hf.in (i := 17) (d := 108) (by kernel_rfl) (hp 17 (by kernel_rfl)) (hJ.vals 17 _ rfl (hp 17 (by kernel_rfl)))
                    have t109 := hf.in (i := 18) (d := 109) (by kernel_rfl) (hp 18 (by kernel_rfl)) (hJ.vals 18 _ rfl (hp 18 (by kernel_rfl)))
                    rw [if_pos (by rfl)]
                    go_simp
                    refine (HP2.out _).mono ?_
                    rintro e wA ⟨rfl, rfl⟩
                    exact hK _ _ (hJ.val HOK 19 _ hl (by kernel_rfl) (by kernel_rfl) rfl (Below.refl _ _))
                  case o10_20 =>
                    intro LX V aX wX K hl hp hcl hf hJ hK
                    have t103 := hf.in (i := 12) (d := 103) (by kernel_rfl) (hp 12 (by kernel_rfl)) (hJ.vals 12 _ rfl (hp 12 (by kernel_rfl)))
                    have t110 := hf.in (i := 19) (d := 110) (by kernel_rfl) (hp 19 (by kernel_rfl)) (hJ.vals 19 _ rfl (hp 19 (by kernel_rfl)))
                    rw [if_pos (by rfl)]
                    go_simp
                    exact hK _ _ (hJ.val HOK 20 _ hl (by kernel_rfl) (by kernel_rfl) rfl (Below.refl _ _))
                  case o10_21 =>
                    intro LX V aX wX K hl hp hcl hf hJ hK
                    have t101 := hf.in (i := 10) (d := 101) (by kernel_rfl) (hp 10 (by kernel_rfl)) (hJ.vals 10 _ rfl (hp 10 (by kernel_rfl)))
                    have t111 := hf.in (i := 20) (d := 111) (by kernel_rfl) (hp 20 (by kernel_rfl)) (hJ.vals 20 _ rfl (hp 20 (by kernel_rfl)))
                    rw [if_pos (by rfl)]
                    go_simp
                    refine (HAT.out _ _ _).mono ?_
                    rintro e wA ⟨rfl, hgA⟩
                    exact hK _ _ (hJ.val HOK 21 _ hl (by kernel_rfl) (by kernel_rfl) rfl (hgA.1))
                  case o10_22 =>
                    intro LX V aX wX K hl hp hcl hf hJ hK
                    have t112 := hf.in (i := 21) (d := 112) (by kernel_rfl) (hp 21 (by kernel_rfl)) (hJ.vals 21 _ rfl (hp 21 (by kernel_rfl)))
                    rw [if_pos (by rfl)]
                    go_simp
                    exact hK _ _ (hJ.step HOK 22 _ hl (by kernel_rfl) trivial none (World.grownBy_alloc _ _ _) (.inl rfl) (new_one (by kernel_rfl) ⟨1, 22, 22, some 23, [], fun V w => OwnP w wC.heap.size (V 22) [⟨low.x + u1, low.y + u2⟩]⟩ (List.mem_of_getElem? (i := 1) rfl) rfl ⟨(fun j hj => by rcases hj with rfl | hj; exact .inl rfl; cases hj), by (try simp only); rw [upd_at]; exact OwnP.lit wX _ hJ.below.size [⟨low.x + u1, low.y + u2⟩] (by simp), fun g hg => .inl (by rw [upd_at] at hg; cases hg; exact Nat.le_refl _)⟩))
                  case o10_23 =>
                    intro LX V aX wX K hl hp hcl hf hJ hK
                    have t91 := hf.in (i := 0) (d := 91) (by kernel_rfl) (hp 0 (by kernel_rfl)) (hJ.vals 0 _ rfl (hp 0 (by kernel_rfl)))
                    have t113 := hf.in (i := 22) (d := 113) (by kernel_rfl) (hp 22 (by kernel_rfl)) rfl
                    rw [if_pos (by rfl)]
                    have hq0 := hJ.at ⟨0, 1000, 1000, some 23, [], fun V w => V 1000 = u18 ∧ OwnP w wC.heap.size (V 1000) L⟩ (List.mem_of_getElem? (i := 0) rfl) (rfl) hl
                    have hq1 := hJ.at ⟨1, 22, 22, some 23, [], fun V w => OwnP w wC.heap.size (V 22) [⟨low.x + u1, low.y + u2⟩]⟩ (List.mem_of_getElem? (i := 1) rfl) (lor (hp 22 (by kernel_rfl))) hl
                    obtain ⟨q1, q2⟩ := hq0
                    rw [q1] at q2
                    obtain ⟨ao, cp, hv22, hpts⟩ := OwnP.pts hq1
                    refine opwp_append_ptsF _ _ rfl wC.heap.size u18 L (eval_tmp t91) q2 ao 1 cp [⟨low.x + u1, low.y + u2⟩] (by rw [eval_tmp t113]; exact hv22) hpts HLN.out hJ.below.size ?_
                    intro v' w' hown2 hgr hfr
                    exact hK _ _ (hJ.step HOK 23 v' hl (by kernel_rfl) trivial u18.ownBlock hgr (.inr ⟨⟨0, 1000, 1000, some 23, [], fun V w => V 1000 = u18 ∧ OwnP w wC.heap.size (V 1000) L⟩, List.mem_of_getElem? (i := 0) rfl, rfl, rfl, by (try simp only); rw [q1]; exact q2.any⟩) (new_one (by kernel_rfl) ⟨2, 23, 23, some 24, [], fun V w => OwnP w wC.heap.size (V 23) (L ++ [⟨low.x + u1, low.y + u2⟩])⟩ (List.mem_of_getElem? (i := 2) rfl) rfl ⟨(fun j hj => by rcases hj with rfl | hj; exact .inl rfl; cases hj), by (try simp only); rw [upd_at]; exact hown2, fun g hg => by rw [upd_at] at hg; exact hfr g hg⟩))
                  case o10_24 =>
                    intro LX V aX wX K hl hp hcl hf hJ hK
                    have t114 := hf.in (i := 23) (d := 114) (by kernel_rfl) (hp 23 (by kernel_rfl)) rfl
                    rw [if_pos (by rfl)]
                    have hq0 := hJ.at ⟨2, 23, 23, some 24, [], fun V w => OwnP w wC.heap.size (V 23) (L ++ [⟨low.x + u1, low.y + u2⟩])⟩ (List.mem_of_getElem? (i := 2) rfl) (lor (hp 23 (by kernel_rfl))) hl
                    go_simp
                    exact hK _ _ (hJ.step HOK 24 _ hl (by kernel_rfl) trivial (ownAny (V 23)) ⟨rfl, rfl, rfl, Nat.le_refl _, fun _ _ _ => rfl⟩ (.inr ⟨⟨2, 23, 23, some 24, [], fun V w => OwnP w wC.heap.size (V 23) (L ++ [⟨low.x + u1, low.y + u2⟩])⟩, List.mem_of_getElem? (i := 2) rfl, rfl, lor (hp 23 (by kernel_rfl)), rfl⟩) (new_one (by kernel_rfl) ⟨3, 24, 24, none, [], fun V w => OwnP w wC.heap.size (V 24) (L ++ [⟨low.x + u1, low.y + u2⟩])⟩ (List.mem_of_getElem? (i := 3) rfl) rfl ⟨(fun j hj => by rcases hj with rfl | hj; exact .inl rfl; cases hj), by (try simp only); rw [upd_at]; exact hq0, fun g hg => .inr (by rw [upd_at] at hg; exact hg.symm ▸ rfl)⟩))
                intro V wZ hJ
                have hqz := hJ.at ⟨3, 24, 24, none, [], fun V w => OwnP w wC.heap.size (V 24) (L ++ [⟨low.x + u1, low.y + u2⟩])⟩ (List.mem_of_getElem? (i := 3) rfl) (by kernel_rfl) trivial
                have HBZ := Lib.hid hJ.below
                have HQZ := Lib.hid hqz
                simp only [puts, Act.put, List.setIfInBounds_toArray, List.set_cons_zero, List.set_cons_succ]
                clear hJ hqz HOK
                go_wp2_with fail
                go_roundw
                case rel => exact ⟨k + 1, by omega, by go_num, Lib.hid (by rw [HSU.out]; exact HQZ.out), HBZ⟩
                case measure => simp [intOf]; omega
              · have hkm : m = k := by omega
                subst hkm
                have HLEN : Hid ((lineP low wide tall a C m).length = m + 1) := Lib.hid (lineP_len (by rw [HL.out]; exact Nat.le_refl _))
                obtain ⟨L, hL⟩ : ∃ L, L = lineP low wide tall a C m := ⟨_, rfl⟩
                rw [← hL] at hown HLEN
                have HLL := Lib.hid hL
                obtain ⟨qb0, qb1, _, _⟩ := pt_cells ((hbl.out.block _ (heap_lt' HGB.out)).trans HGB.out)
                clear hL
                go_wp2_with (
                  at_builtin
                  refine wpList_append_pts rfl _ _ rfl wC.heap.size _ L rfl (hown.out.later ((Below.refl _ _).alloc (Nat.le_refl _) _)) _ _ _ [b] rfl (pts_lit _ [b] (by simp)) (by rw [HLEN.out]; omega) (Nat.le_trans hbl.out.size (by simp)) ?_
                  intro v6 w6 ho6 hg6
                  have H6 := Lib.hid (And.intro ho6 ((hbl.out.alloc hbl.out.size _).grown hg6 (Nat.le_trans hbl.out.size (by simp)) (fun k hk => (hown.out.lt k hk).1)))
                  clear ho6 hg6)
                obtain ⟨Q, hQ⟩ : ∃ Q, Q = L ++ [b] := ⟨_, rfl⟩
                rw [← hQ] at H6
                have hN2 : Q.length = m + 2 := by rw [hQ, List.length_append, HLEN.out]; rfl
                obtain ⟨N, hN⟩ : ∃ N, N = Q.length := ⟨_, rfl⟩
                rw [← hN] at hN2
                obtain ⟨a6, c6, hv6, hp6⟩ := H6.out.1.pts
                rw [← hN] at hv6 hp6
                subst hv6
                obtain ⟨ad6, rfl⟩ : ∃ ad, a6 = some ad := by
                  obtain ⟨b', off', e, _⟩ := hp6.2.2.2.1 (by omega)
                  exact ⟨_, e⟩
                have HT6 := Lib.hid (H5.out.step H6.out.2)
                have HQL := Lib.hid (And.intro hQ (And.intro hN hN2))
                have HTU : Hid (∀ wX, Below w6.heap.size w6 wX → Calls Try.prog 21 #[.slice (some ad6) N c6] wX fun e w' => ∃ v, e = .returned v ∧ OwnP w' wX.heap.size v Q.reverse ∧ Below wX.heap.size wX w') := Lib.hid (fun wX hX => Turned_own ad6 N c6 Q wX (hp6.later hX (Nat.le_refl _)) (by omega))
                have HP6 := Lib.hid hp6
                have HLN2 : Hid (([low, ⟨high.x, low.y⟩] : List Pt).length + Q.reverse.length ≤ 1000000000) := Lib.hid (by rw [List.length_reverse, ← hN]; simp; omega)
                have HLN3 : Hid (([high, ⟨low.x, high.y⟩] : List Pt).length + N ≤ 1000000000) := Lib.hid (by simp; omega)
                have HOF := Lib.hid ofLaw_any
                have HCELLS : Hid (∀ wX, Below w6.heap.size w6 wX → wX.cell? ⟨w.heap.size + 1, 0, none⟩ = some (.int .i64 low.x) ∧ wX.cell? ⟨w.heap.size + 1, 1, none⟩ = some (.int .i64 low.y) ∧ wX.cell? ⟨w.heap.size + 1 + 1, 0, none⟩ = some (.int .i64 high.x) ∧ wX.cell? ⟨w.heap.size + 1 + 1, 1, none⟩ = some (.int .i64 high.y)) := Lib.hid (fun wX hX => by
                  obtain ⟨q1, q2, _, _⟩ := pt_cells ((hX.block _ (heap_lt' HT6.out.2.1)).trans HT6.out.2.1)
                  obtain ⟨q3, q4, _, _⟩ := pt_cells ((hX.block _ (heap_lt' HT6.out.2.2.1)).trans HT6.out.2.2.1)
                  exact ⟨q1, q2, q3, q4⟩)
                clear hQ hN hN2 hp6 qb0 qb1 hown hbl
                have HOK : ∀ r ∈ ([⟨0, 6, 6, some 9, [], fun V w => OwnP w w6.heap.size (V 6) [low, ⟨high.x, low.y⟩]⟩, ⟨1, 8, 8, some 9, [], fun V w => OwnP w w6.heap.size (V 8) Q.reverse⟩, ⟨2, 9, 9, none, [], fun V w => OwnP w w6.heap.size (V 9) ([low, ⟨high.x, low.y⟩] ++ Q.reverse)⟩, ⟨3, 10, 10, none, [9], fun V w => IsLit w6 28 1 #[V 9] (V 10) w⟩, ⟨4, 11, 11, none, [10], fun V w => V 11 = .agg #[V 10]⟩, ⟨5, 12, 12, some 13, [], fun V w => IsBlk w6 25 #[.slice none 0 0] (V 12) w⟩, ⟨6, 12, 13, none, [10], fun V w => IsBlk w6 25 #[V 10] (V 12) w⟩] : List Resr), ResOk w6 r := by
                  intro r hr
                  simp only [List.mem_cons, List.not_mem_nil, or_false] at hr
                  rcases hr with rfl | rfl | rfl | rfl | rfl | rfl | rfl
                  · exact resPts_ok _
                  · exact resPts_ok _
                  · exact resPts_ok _
                  · exact resLit_ok (fun V => #[V 9]) (fun V V' h => by rw [h 9 (by simp)])
                  · exact resFact_ok (fun V => V 11 = .agg #[V 10]) (fun V h => by rw [h]; rfl) (fun V V' h e => by rw [h 11 (by simp), h 10 (by simp)]; exact e)
                  · exact resBlk_ok (fun _ => _) (fun _ _ _ => rfl)
                  · exact resBlk_ok (fun V => #[V 10]) (fun V V' h => by rw [h 10 (by simp)])
                refine wp_region_J (s := [(119, 0), (120, 1), (121, 2), (122, 3), (123, 4), (124, 5), (125, 6), (126, 7), (127, 8), (128, 9), (129, 10), (130, 11), (20, 12)]) (by kernel_rfl) (ResJ w6 (fun iX => match iX with | 0 => some (.agg #[.int .i64 low.x, .int .i64 low.y]) | 1 => some (.pointer (some ⟨w.heap.size + 1 + 1, 0, none⟩)) | 2 => some (.int .i64 (high.x)) | 3 => some (.pointer (some ⟨w.heap.size + 1, 1, none⟩)) | 4 => some (.int .i64 (low.y)) | 5 => some (.agg #[.int .i64 high.x, .int .i64 low.y]) | 7 => some (.slice (some ad6) N c6) | _ => none) [⟨0, 6, 6, some 9, [], fun V w => OwnP w w6.heap.size (V 6) [low, ⟨high.x, low.y⟩]⟩, ⟨1, 8, 8, some 9, [], fun V w => OwnP w w6.heap.size (V 8) Q.reverse⟩, ⟨2, 9, 9, none, [], fun V w => OwnP w w6.heap.size (V 9) ([low, ⟨high.x, low.y⟩] ++ Q.reverse)⟩, ⟨3, 10, 10, none, [9], fun V w => IsLit w6 28 1 #[V 9] (V 10) w⟩, ⟨4, 11, 11, none, [10], fun V w => V 11 = .agg #[V 10]⟩, ⟨5, 12, 12, some 13, [], fun V w => IsBlk w6 25 #[.slice none 0 0] (V 12) w⟩, ⟨6, 12, 13, none, [10], fun V w => IsBlk w6 25 #[V 10] (V 12) w⟩]) (by kernel_rfl) (by kernel_rfl) (by kernel_rfl) (by kernel_rfl) (fun _ => undef) ?start12 ?step12 ?done12
                case start12 => exact ResJ.start ((Below.refl _ _).drew) (by kernel_rfl)
                case step12 =>
                  refine ⟨?o12_0, ?o12_1, ?o12_2, ?o12_3, ?o12_4, ?o12_5, ?o12_6, ?o12_7, ?o12_8, ?o12_9, ?o12_10, ?o12_11, ?o12_12, ?o12_13, trivial⟩
                  case o12_0 =>
                    intro LX V aX wX K hl hp hcl hf hJ hK
                    have t7 : aX.tmps[7]? = some (.pointer (some ⟨w.heap.size + 1, 0, none⟩)) := hf.old (by kernel_rfl) rfl
                    obtain ⟨c0, c1, c2, c3⟩ := HCELLS.out wX hJ.below
                    rw [if_pos (by rfl)]
                    go_simp
                    exact hK _ _ (hJ.val HOK 0 _ hl (by kernel_rfl) (by kernel_rfl) rfl (Below.refl _ _))
                  case o12_1 =>
                    intro LX V aX wX K hl hp hcl hf hJ hK
                    have t8 : aX.tmps[8]? = some (.pointer (some ⟨w.heap.size + 1 + 1, 0, none⟩)) := hf.old (by kernel_rfl) rfl
                    rw [if_pos (by rfl)]
                    go_simp
                    exact hK _ _ (hJ.val HOK 1 _ hl (by kernel_rfl) (by kernel_rfl) rfl (Below.refl _ _))
                  case o12_2 =>
                    intro LX V aX wX K hl hp hcl hf hJ hK
                    have t120 := hf.in (i := 1) (d := 120) (by kernel_rfl) (hp 1 (by kernel_rfl)) (hJ.vals 1 _ rfl (hp 1 (by kernel_rfl)))
                    obtain ⟨c0, c1, c2, c3⟩ := HCELLS.out wX hJ.below
                    rw [if_pos (by rfl)]
                    go_simp
                    exact hK _ _ (hJ.val HOK 2 _ hl (by kernel_rfl) (by kernel_rfl) rfl (Below.refl _ _))
                  case o12_3 =>
                    intro LX V aX wX K hl hp hcl hf hJ hK
                    have t7 : aX.tmps[7]? = some (.pointer (some ⟨w.heap.size + 1, 0, none⟩)) := hf.old (by kernel_rfl) rfl
                    rw [if_pos (by rfl)]
                    go_simp
                    exact hK _ _ (hJ.val HOK 3 _ hl (by kernel_rfl) (by kernel_rfl) rfl (Below.refl _ _))
                  case o12_4 =>
                    intro LX V aX wX K hl hp hcl hf hJ hK
                    have t122 := hf.in (i := 3) (d := 122) (by kernel_rfl) (hp 3 (by kernel_rfl)) (hJ.vals 3 _ rfl (hp 3 (by kernel_rfl)))
                    obtain ⟨c0, c1, c2, c3⟩ := HCELLS.out wX hJ.below
                    rw [if_pos (by rfl)]
                    go_simp
                    exact hK _ _ (hJ.val HOK 4 _ hl (by kernel_rfl) (by kernel_rfl) rfl (Below.refl _ _))
                  case o12_5 =>
                    intro LX V aX wX K hl hp hcl hf hJ hK
                    have t121 := hf.in (i := 2) (d := 121) (by kernel_rfl) (hp 2 (by kernel_rfl)) (hJ.vals 2 _ rfl (hp 2 (by kernel_rfl)))
                    have t123 := hf.in (i := 4) (d := 123) (by kernel_rfl) (hp 4 (by kernel_rfl)) (hJ.vals 4 _ rfl (hp 4 (by kernel_rfl)))
                    rw [if_pos (by rfl)]
                    go_simp
                    refine (HAT.out _ _ _).mono ?_
                    rintro e wA ⟨rfl, hgA⟩
                    exact hK _ _ (hJ.val HOK 5 _ hl (by kernel_rfl) (by kernel_rfl) rfl (hgA.1))
                  case o12_6 =>
                    intro LX V aX wX K hl hp hcl hf hJ hK
                    have t119 := hf.in (i := 0) (d := 119) (by kernel_rfl) (hp 0 (by kernel_rfl)) (hJ.vals 0 _ rfl (hp 0 (by kernel_rfl)))
                    have t124 := hf.in (i := 5) (d := 124) (by kernel_rfl) (hp 5 (by kernel_rfl)) (hJ.vals 5 _ rfl (hp 5 (by kernel_rfl)))
                    rw [if_pos (by rfl)]
                    go_simp
                    exact hK _ _ (hJ.step HOK 6 _ hl (by kernel_rfl) trivial none (World.grownBy_alloc _ _ _) (.inl rfl) (new_one (by kernel_rfl) ⟨0, 6, 6, some 9, [], fun V w => OwnP w w6.heap.size (V 6) [low, ⟨high.x, low.y⟩]⟩ (List.mem_of_getElem? (i := 0) rfl) rfl ⟨(fun j hj => by rcases hj with rfl | hj; exact .inl rfl; cases hj), by (try simp only); rw [upd_at]; exact OwnP.lit wX _ hJ.below.size [low, ⟨high.x, low.y⟩] (by simp), fun g hg => .inl (by rw [upd_at] at hg; cases hg; exact Nat.le_refl _)⟩))
                  case o12_7 =>
                    intro LX V aX wX K hl hp hcl hf hJ hK
                    have t18 : aX.tmps[18]? = some (.slice (some ad6) N c6) := hf.old (by kernel_rfl) rfl
                    rw [if_pos (by rfl)]
                    go_simp
                    exact hK _ _ (hJ.val HOK 7 _ hl (by kernel_rfl) (by kernel_rfl) rfl (Below.refl _ _))
                  case o12_8 =>
                    intro LX V aX wX K hl hp hcl hf hJ hK
                    have t126 := hf.in (i := 7) (d := 126) (by kernel_rfl) (hp 7 (by kernel_rfl)) (hJ.vals 7 _ rfl (hp 7 (by kernel_rfl)))
                    rw [if_pos (by rfl)]
                    go_simp
                    refine (HTU.out _ hJ.below).mono ?_
                    rintro e wA ⟨v8, rfl, ho8, hg⟩
                    exact hK _ _ (hJ.step HOK 8 _ hl (by kernel_rfl) trivial none (grown_below hg) (.inl rfl) (new_one (by kernel_rfl) ⟨1, 8, 8, some 9, [], fun V w => OwnP w w6.heap.size (V 8) Q.reverse⟩ (List.mem_of_getElem? (i := 1) rfl) rfl ⟨(fun j hj => by rcases hj with rfl | hj; exact .inl rfl; cases hj), by (try simp only); rw [upd_at]; exact ho8.base hJ.below.size, fun g hg => .inl (by rw [upd_at, ho8.any] at hg; exact (ho8.lt g hg).1)⟩))
                  case o12_9 =>
                    intro LX V aX wX K hl hp hcl hf hJ hK
                    have t125 := hf.in (i := 6) (d := 125) (by kernel_rfl) (hp 6 (by kernel_rfl)) rfl
                    have t127 := hf.in (i := 8) (d := 127) (by kernel_rfl) (hp 8 (by kernel_rfl)) rfl
                    rw [if_pos (by rfl)]
                    have hq0 := hJ.at ⟨0, 6, 6, some 9, [], fun V w => OwnP w w6.heap.size (V 6) [low, ⟨high.x, low.y⟩]⟩ (List.mem_of_getElem? (i := 0) rfl) (lor (hp 6 (by kernel_rfl))) hl
                    have hq1 := hJ.at ⟨1, 8, 8, some 9, [], fun V w => OwnP w w6.heap.size (V 8) Q.reverse⟩ (List.mem_of_getElem? (i := 1) rfl) (lor (hp 8 (by kernel_rfl))) hl
                    obtain ⟨ao, cp, hv8, hpts⟩ := OwnP.pts hq1
                    refine opwp_append_ptsF _ _ rfl w6.heap.size (V 6) [low, ⟨high.x, low.y⟩] (eval_tmp t125) hq0 ao _ cp Q.reverse (by rw [eval_tmp t127]; exact hv8) hpts HLN2.out hJ.below.size ?_
                    intro v' w' hown2 hgr hfr
                    exact hK _ _ (hJ.step HOK 9 v' hl (by kernel_rfl) trivial (V 6).ownBlock hgr (.inr ⟨⟨0, 6, 6, some 9, [], fun V w => OwnP w w6.heap.size (V 6) [low, ⟨high.x, low.y⟩]⟩, List.mem_of_getElem? (i := 0) rfl, rfl, lor (hp 6 (by kernel_rfl)), by (try simp only); exact OwnP.any hq0⟩) (new_one (by kernel_rfl) ⟨2, 9, 9, none, [], fun V w => OwnP w w6.heap.size (V 9) ([low, ⟨high.x, low.y⟩] ++ Q.reverse)⟩ (List.mem_of_getElem? (i := 2) rfl) rfl ⟨(fun j hj => by rcases hj with rfl | hj; exact .inl rfl; cases hj), by (try simp only); rw [upd_at]; exact hown2, fun g hg => by rw [upd_at] at hg; exact hfr g hg⟩))
                  case o12_10 =>
                    intro LX V aX wX K hl hp hcl hf hJ hK
                    have t128 := hf.in (i := 9) (d := 128) (by kernel_rfl) (hp 9 (by kernel_rfl)) rfl
                    rw [if_pos (by rfl)]
                    have hq2 := hJ.at ⟨2, 9, 9, none, [], fun V w => OwnP w w6.heap.size (V 9) ([low, ⟨high.x, low.y⟩] ++ Q.reverse)⟩ (List.mem_of_getElem? (i := 2) rfl) (lor (hp 9 (by kernel_rfl))) trivial
                    obtain ⟨ao9, c9, hv9, _⟩ := OwnP.pts hq2
                    generalize ([low, ⟨high.x, low.y⟩] ++ Q.reverse : List Pt).length = M at hv9
                    rw [hv9] at t128
                    go_simp
                    exact hK _ _ (hJ.step HOK 10 _ hl (by kernel_rfl) trivial none (World.grownBy_alloc _ _ _) (.inl rfl) (new_one (by kernel_rfl) ⟨3, 10, 10, none, [9], fun V w => IsLit w6 28 1 #[V 9] (V 10) w⟩ (List.mem_of_getElem? (i := 3) rfl) rfl ⟨(fun j hj => by simp only [List.mem_cons, List.not_mem_nil, or_false] at hj; rcases hj with rfl | rfl; exact .inl rfl; exact .inr (hp 9 (by kernel_rfl))), ⟨_, upd_at _ _ _, hJ.below.size, by (try simp only); rw [upd_ne _ _ _ _ (by decide), hv9]; exact alloc_new0 _ _⟩, fun g hg => .inl (by rw [upd_at] at hg; cases hg; exact Nat.le_refl _)⟩))
                  case o12_11 =>
                    intro LX V aX wX K hl hp hcl hf hJ hK
                    have t129 := hf.in (i := 10) (d := 129) (by kernel_rfl) (hp 10 (by kernel_rfl)) rfl
                    rw [if_pos (by rfl)]
                    have hq3 := hJ.at ⟨3, 10, 10, none, [9], fun V w => IsLit w6 28 1 #[V 9] (V 10) w⟩ (List.mem_of_getElem? (i := 3) rfl) (lor (hp 10 (by kernel_rfl))) trivial
                    obtain ⟨g10, hv10, _, h10⟩ := hq3
                    try simp only at hv10
                    rw [hv10] at t129
                    go_simp
                    refine (HOF.out _ _ _ _).mono ?_
                    rintro e wA ⟨rfl, hgA⟩
                    exact hK _ _ (hJ.step HOK 11 _ hl (by kernel_rfl) trivial none (grown_below hgA.1) (.inl rfl) (new_one (by kernel_rfl) ⟨4, 11, 11, none, [10], fun V w => V 11 = .agg #[V 10]⟩ (List.mem_of_getElem? (i := 4) rfl) rfl ⟨(fun j hj => by simp only [List.mem_cons, List.not_mem_nil, or_false] at hj; rcases hj with rfl | rfl; exact .inl rfl; exact .inr (hp 10 (by kernel_rfl))), by (try simp only); rw [upd_at, upd_ne _ _ _ _ (by decide), hv10], fun g hg => by rw [upd_at] at hg; cases hg⟩))
                  case o12_12 =>
                    intro LX V aX wX K hl hp hcl hf hJ hK
                    rw [if_pos (by rfl)]
                    go_simp
                    exact hK _ _ (hJ.step HOK 12 _ hl (by kernel_rfl) trivial none (World.grownBy_alloc _ _ _) (.inl rfl) (new_one (by kernel_rfl) ⟨5, 12, 12, some 13, [], fun V w => IsBlk w6 25 #[.slice none 0 0] (V 12) w⟩ (List.mem_of_getElem? (i := 5) rfl) rfl ⟨(fun j hj => by rcases hj with rfl | hj; exact .inl rfl; cases hj), ⟨_, upd_at _ _ _, hJ.below.size, alloc_new0 _ _⟩, fun g hg => .inl (by rw [upd_at] at hg; cases hg; exact Nat.le_refl _)⟩))
                  case o12_13 =>
                    intro LX V aX wX K hl hp hcl hf hJ hK
                    have t20 := hf.in (i := 12) (d := 20) (by kernel_rfl) (hp 12 (by kernel_rfl)) rfl
                    have t130 := hf.in (i := 11) (d := 130) (by kernel_rfl) (hp 11 (by kernel_rfl)) rfl
                    have hq4 := hJ.at ⟨4, 11, 11, none, [10], fun V w => V 11 = .agg #[V 10]⟩ (List.mem_of_getElem? (i := 4) rfl) (lor (hp 11 (by kernel_rfl))) trivial
                    have hq3 := hJ.at ⟨3, 10, 10, none, [9], fun V w => IsLit w6 28 1 #[V 9] (V 10) w⟩ (List.mem_of_getElem? (i := 3) rfl) (lor (hp 10 (by kernel_rfl))) trivial
                    rw [if_pos (by rfl)]
                    have hq0 := hJ.at ⟨5, 12, 12, some 13, [], fun V w => IsBlk w6 25 #[.slice none 0 0] (V 12) w⟩ (List.mem_of_getElem? (i := 5) rfl) (lor (hp 12 (by kernel_rfl))) hl
                    obtain ⟨g, hg, hg1, hg2⟩ := hq0
                    have tp := t20
                    try simp only at hg
                    rw [hg] at tp
                    obtain ⟨g10, hv10, _, h10⟩ := hq3
                    try simp only at hv10 hq4
                    rw [hq4, hv10] at t130
                    refine wp_store_row _ _ _ rfl g #[.slice (some ⟨g10, 0, none⟩) 1 1] (by simp [Act.eval, tp]) (by simp [Act.eval, t130]) _ _ hg2 (by kernel_rfl) rfl (by kernel_rfl) ?_
                    exact hK _ _ (hJ.step HOK 13 _ hl (by kernel_rfl) trivial (some g) (grown_setRow _ _ _) (.inr ⟨⟨5, 12, 12, some 13, [], fun V w => IsBlk w6 25 #[.slice none 0 0] (V 12) w⟩, List.mem_of_getElem? (i := 5) rfl, rfl, lor (hp 12 (by kernel_rfl)), by (try simp only); rw [hg]; rfl⟩) (new_one (by kernel_rfl) ⟨6, 12, 13, none, [10], fun V w => IsBlk w6 25 #[V 10] (V 12) w⟩ (List.mem_of_getElem? (i := 6) rfl) rfl ⟨(fun j hj => by simp only [List.mem_cons, List.not_mem_nil, or_false] at hj; rcases hj with rfl | rfl; exact .inr (hp 12 (by kernel_rfl)); exact .inr (hp 10 (by kernel_rfl))), ⟨g, (upd_ne _ _ _ _ (by decide)).trans hg, hg1, by (try simp only); rw [upd_ne _ _ _ _ (by decide), hv10]; exact setRow_heap _ _ _ _ _ _ hg2⟩, fun g' hg' => .inr (by simp only at hg'; rw [upd_ne _ _ _ _ (by decide), hg] at hg'; exact hg')⟩))
                intro V w7 hJ
                have hq2 := hJ.at ⟨2, 9, 9, none, [], fun V w => OwnP w w6.heap.size (V 9) ([low, ⟨high.x, low.y⟩] ++ Q.reverse)⟩ (List.mem_of_getElem? (i := 2) rfl) (by kernel_rfl) trivial
                have hq3 := hJ.at ⟨3, 10, 10, none, [9], fun V w => IsLit w6 28 1 #[V 9] (V 10) w⟩ (List.mem_of_getElem? (i := 3) rfl) (by kernel_rfl) trivial
                have hq6 := hJ.at ⟨6, 12, 13, none, [10], fun V w => IsBlk w6 25 #[V 10] (V 12) w⟩ (List.mem_of_getElem? (i := 6) rfl) (by kernel_rfl) trivial
                have HB7 := Lib.hid hJ.below
                obtain ⟨g20, hv20, hg20, h20⟩ := hq6
                obtain ⟨g10, hv10, _, h10⟩ := hq3
                try simp only at hv20 h20 hv10 h10
                rw [hv10] at h20
                obtain ⟨ao9, c9, hv9, hp9⟩ := OwnP.pts hq2
                rw [hv9] at h10
                have hr7 := rings_one hp9 h10
                have H7 := Lib.hid (And.intro h20 hr7)
                simp only [puts, Act.put, List.setIfInBounds_toArray, List.set_cons_zero, List.set_cons_succ]
                rw [hv20]
                clear hJ hq2 hv20 h20 hv10 h10 hv9 hp9 hr7 HOK
                clear HCELLS HTU HLN2
                have HT7 := Lib.hid (HT6.out.step HB7.out)
                have HLINE : Hid (∀ wX, Below w7.heap.size w7 wX → IsPts wX (some ad6) N c6 Q) := Lib.hid (fun wX hX => (HP6.out.later HB7.out (Nat.le_refl _)).later hX (Nat.le_refl _))
                have HCELLS : Hid (∀ wX, Below w7.heap.size w7 wX → wX.cell? ⟨w.heap.size + 1, 0, none⟩ = some (.int .i64 low.x) ∧ wX.cell? ⟨w.heap.size + 1, 1, none⟩ = some (.int .i64 low.y) ∧ wX.cell? ⟨w.heap.size + 1 + 1, 0, none⟩ = some (.int .i64 high.x) ∧ wX.cell? ⟨w.heap.size + 1 + 1, 1, none⟩ = some (.int .i64 high.y)) := Lib.hid (fun wX hX => by
                  obtain ⟨q1, q2, _, _⟩ := pt_cells ((hX.block _ (heap_lt' HT7.out.2.1)).trans HT7.out.2.1)
                  obtain ⟨q3, q4, _, _⟩ := pt_cells ((hX.block _ (heap_lt' HT7.out.2.2.1)).trans HT7.out.2.2.1)
                  exact ⟨q1, q2, q3, q4⟩)
                go_wp2_with fail
                have HOK : ∀ r ∈ ([⟨0, 6, 6, some 8, [], fun V w => OwnP w w7.heap.size (V 6) [high, ⟨low.x, high.y⟩]⟩, ⟨1, 8, 8, none, [], fun V w => OwnP w w7.heap.size (V 8) ([high, ⟨low.x, high.y⟩] ++ Q)⟩, ⟨2, 9, 9, none, [8], fun V w => IsLit w7 28 1 #[V 8] (V 9) w⟩, ⟨3, 10, 10, none, [9], fun V w => V 10 = .agg #[V 9]⟩, ⟨4, 11, 11, some 12, [], fun V w => IsBlk w7 25 #[.slice none 0 0] (V 11) w⟩, ⟨5, 11, 12, none, [9], fun V w => IsBlk w7 25 #[V 9] (V 11) w⟩] : List Resr), ResOk w7 r := by
                  intro r hr
                  simp only [List.mem_cons, List.not_mem_nil, or_false] at hr
                  rcases hr with rfl | rfl | rfl | rfl | rfl | rfl
                  · exact resPts_ok _
                  · exact resPts_ok _
                  · exact resLit_ok (fun V => #[V 8]) (fun V V' h => by rw [h 8 (by simp)])
                  · exact resFact_ok (fun V => V 10 = .agg #[V 9]) (fun V h => by rw [h]; rfl) (fun V V' h e => by rw [h 10 (by simp), h 9 (by simp)]; exact e)
                  · exact resBlk_ok (fun _ => _) (fun _ _ _ => rfl)
                  · exact resBlk_ok (fun V => #[V 9]) (fun V V' h => by rw [h 9 (by simp)])
                refine wp_region_J (s := [(131, 0), (132, 1), (133, 2), (134, 3), (135, 4), (136, 5), (137, 6), (138, 7), (139, 8), (140, 9), (141, 10), (21, 11)]) (by kernel_rfl) (ResJ w7 (fun iX => match iX with | 0 => some (.agg #[.int .i64 high.x, .int .i64 high.y]) | 1 => some (.pointer (some ⟨w.heap.size + 1, 0, none⟩)) | 2 => some (.int .i64 (low.x)) | 3 => some (.pointer (some ⟨w.heap.size + 1 + 1, 1, none⟩)) | 4 => some (.int .i64 (high.y)) | 5 => some (.agg #[.int .i64 low.x, .int .i64 high.y]) | 7 => some (.slice (some ad6) N c6) | _ => none) [⟨0, 6, 6, some 8, [], fun V w => OwnP w w7.heap.size (V 6) [high, ⟨low.x, high.y⟩]⟩, ⟨1, 8, 8, none, [], fun V w => OwnP w w7.heap.size (V 8) ([high, ⟨low.x, high.y⟩] ++ Q)⟩, ⟨2, 9, 9, none, [8], fun V w => IsLit w7 28 1 #[V 8] (V 9) w⟩, ⟨3, 10, 10, none, [9], fun V w => V 10 = .agg #[V 9]⟩, ⟨4, 11, 11, some 12, [], fun V w => IsBlk w7 25 #[.slice none 0 0] (V 11) w⟩, ⟨5, 11, 12, none, [9], fun V w => IsBlk w7 25 #[V 9] (V 11) w⟩]) (by kernel_rfl) (by kernel_rfl) (by kernel_rfl) (by kernel_rfl) (fun _ => undef) ?start13 ?step13 ?done13
                case start13 => exact ResJ.start ((Below.refl _ _).drew) (by kernel_rfl)
                case step13 =>
                  refine ⟨?o13_0, ?o13_1, ?o13_2, ?o13_3, ?o13_4, ?o13_5, ?o13_6, ?o13_7, ?o13_8, ?o13_9, ?o13_10, ?o13_11, ?o13_12, trivial⟩
                  case o13_0 =>
                    intro LX V aX wX K hl hp hcl hf hJ hK
                    have t8 : aX.tmps[8]? = some (.pointer (some ⟨w.heap.size + 1 + 1, 0, none⟩)) := hf.old (by kernel_rfl) rfl
                    obtain ⟨c0, c1, c2, c3⟩ := HCELLS.out wX hJ.below
                    rw [if_pos (by rfl)]
                    go_simp
                    exact hK _ _ (hJ.val HOK 0 _ hl (by kernel_rfl) (by kernel_rfl) rfl (Below.refl _ _))
                  case o13_1 =>
                    intro LX V aX wX K hl hp hcl hf hJ hK
                    have t7 : aX.tmps[7]? = some (.pointer (some ⟨w.heap.size + 1, 0, none⟩)) := hf.old (by kernel_rfl) rfl
                    rw [if_pos (by rfl)]
                    go_simp
                    exact hK _ _ (hJ.val HOK 1 _ hl (by kernel_rfl) (by kernel_rfl) rfl (Below.refl _ _))
                  case o13_2 =>
                    intro LX V aX wX K hl hp hcl hf hJ hK
                    have t132 := hf.in (i := 1) (d := 132) (by kernel_rfl) (hp 1 (by kernel_rfl)) (hJ.vals 1 _ rfl (hp 1 (by kernel_rfl)))
                    obtain ⟨c0, c1, c2, c3⟩ := HCELLS.out wX hJ.below
                    rw [if_pos (by rfl)]
                    go_simp
                    exact hK _ _ (hJ.val HOK 2 _ hl (by kernel_rfl) (by kernel_rfl) rfl (Below.refl _ _))
                  case o13_3 =>
                    intro LX V aX wX K hl hp hcl hf hJ hK
                    have t8 : aX.tmps[8]? = some (.pointer (some ⟨w.heap.size + 1 + 1, 0, none⟩)) := hf.old (by kernel_rfl) rfl
                    rw [if_pos (by rfl)]
                    go_simp
                    exact hK _ _ (hJ.val HOK 3 _ hl (by kernel_rfl) (by kernel_rfl) rfl (Below.refl _ _))
                  case o13_4 =>
                    intro LX V aX wX K hl hp hcl hf hJ hK
                    have t134 := hf.in (i := 3) (d := 134) (by kernel_rfl) (hp 3 (by kernel_rfl)) (hJ.vals 3 _ rfl (hp 3 (by kernel_rfl)))
                    obtain ⟨c0, c1, c2, c3⟩ := HCELLS.out wX hJ.below
                    rw [if_pos (by rfl)]
                    go_simp
                    exact hK _ _ (hJ.val HOK 4 _ hl (by kernel_rfl) (by kernel_rfl) rfl (Below.refl _ _))
                  case o13_5 =>
                    intro LX V aX wX K hl hp hcl hf hJ hK
                    have t133 := hf.in (i := 2) (d := 133) (by kernel_rfl) (hp 2 (by kernel_rfl)) (hJ.vals 2 _ rfl (hp 2 (by kernel_rfl)))
                    have t135 := hf.in (i := 4) (d := 135) (by kernel_rfl) (hp 4 (by kernel_rfl)) (hJ.vals 4 _ rfl (hp 4 (by kernel_rfl)))
                    rw [if_pos (by rfl)]
                    go_simp
                    refine (HAT.out _ _ _).mono ?_
                    rintro e wA ⟨rfl, hgA⟩
                    exact hK _ _ (hJ.val HOK 5 _ hl (by kernel_rfl) (by kernel_rfl) rfl (hgA.1))
                  case o13_6 =>
                    intro LX V aX wX K hl hp hcl hf hJ hK
                    have t131 := hf.in (i := 0) (d := 131) (by kernel_rfl) (hp 0 (by kernel_rfl)) (hJ.vals 0 _ rfl (hp 0 (by kernel_rfl)))
                    have t136 := hf.in (i := 5) (d := 136) (by kernel_rfl) (hp 5 (by kernel_rfl)) (hJ.vals 5 _ rfl (hp 5 (by kernel_rfl)))
                    rw [if_pos (by rfl)]
                    go_simp
                    exact hK _ _ (hJ.step HOK 6 _ hl (by kernel_rfl) trivial none (World.grownBy_alloc _ _ _) (.inl rfl) (new_one (by kernel_rfl) ⟨0, 6, 6, some 8, [], fun V w => OwnP w w7.heap.size (V 6) [high, ⟨low.x, high.y⟩]⟩ (List.mem_of_getElem? (i := 0) rfl) rfl ⟨(fun j hj => by rcases hj with rfl | hj; exact .inl rfl; cases hj), by (try simp only); rw [upd_at]; exact OwnP.lit wX _ hJ.below.size [high, ⟨low.x, high.y⟩] (by simp), fun g hg => .inl (by rw [upd_at] at hg; cases hg; exact Nat.le_refl _)⟩))
                  case o13_7 =>
                    intro LX V aX wX K hl hp hcl hf hJ hK
                    have t18 : aX.tmps[18]? = some (.slice (some ad6) N c6) := hf.old (by kernel_rfl) rfl
                    rw [if_pos (by rfl)]
                    go_simp
                    exact hK _ _ (hJ.val HOK 7 _ hl (by kernel_rfl) (by kernel_rfl) rfl (Below.refl _ _))
                  case o13_8 =>
                    intro LX V aX wX K hl hp hcl hf hJ hK
                    have t137 := hf.in (i := 6) (d := 137) (by kernel_rfl) (hp 6 (by kernel_rfl)) rfl
                    have t138 := hf.in (i := 7) (d := 138) (by kernel_rfl) (hp 7 (by kernel_rfl)) (hJ.vals 7 _ rfl (hp 7 (by kernel_rfl)))
                    rw [if_pos (by rfl)]
                    have hq0 := hJ.at ⟨0, 6, 6, some 8, [], fun V w => OwnP w w7.heap.size (V 6) [high, ⟨low.x, high.y⟩]⟩ (List.mem_of_getElem? (i := 0) rfl) (lor (hp 6 (by kernel_rfl))) hl
                    refine opwp_append_ptsF _ _ rfl w7.heap.size (V 6) [high, ⟨low.x, high.y⟩] (eval_tmp t137) hq0 _ _ _ Q (eval_tmp t138) (HLINE.out _ hJ.below) HLN3.out hJ.below.size ?_
                    intro v' w' hown2 hgr hfr
                    exact hK _ _ (hJ.step HOK 8 v' hl (by kernel_rfl) trivial (V 6).ownBlock hgr (.inr ⟨⟨0, 6, 6, some 8, [], fun V w => OwnP w w7.heap.size (V 6) [high, ⟨low.x, high.y⟩]⟩, List.mem_of_getElem? (i := 0) rfl, rfl, lor (hp 6 (by kernel_rfl)), by (try simp only); exact OwnP.any hq0⟩) (new_one (by kernel_rfl) ⟨1, 8, 8, none, [], fun V w => OwnP w w7.heap.size (V 8) ([high, ⟨low.x, high.y⟩] ++ Q)⟩ (List.mem_of_getElem? (i := 1) rfl) rfl ⟨(fun j hj => by rcases hj with rfl | hj; exact .inl rfl; cases hj), by (try simp only); rw [upd_at]; exact hown2, fun g hg => by rw [upd_at] at hg; exact hfr g hg⟩))
                  case o13_9 =>
                    intro LX V aX wX K hl hp hcl hf hJ hK
                    have t139 := hf.in (i := 8) (d := 139) (by kernel_rfl) (hp 8 (by kernel_rfl)) rfl
                    rw [if_pos (by rfl)]
                    have hq2 := hJ.at ⟨1, 8, 8, none, [], fun V w => OwnP w w7.heap.size (V 8) ([high, ⟨low.x, high.y⟩] ++ Q)⟩ (List.mem_of_getElem? (i := 1) rfl) (lor (hp 8 (by kernel_rfl))) trivial
                    obtain ⟨ao9, c9, hv9, _⟩ := OwnP.pts hq2
                    generalize ([high, ⟨low.x, high.y⟩] ++ Q : List Pt).length = M at hv9
                    rw [hv9] at t139
                    go_simp
                    exact hK _ _ (hJ.step HOK 9 _ hl (by kernel_rfl) trivial none (World.grownBy_alloc _ _ _) (.inl rfl) (new_one (by kernel_rfl) ⟨2, 9, 9, none, [8], fun V w => IsLit w7 28 1 #[V 8] (V 9) w⟩ (List.mem_of_getElem? (i := 2) rfl) rfl ⟨(fun j hj => by simp only [List.mem_cons, List.not_mem_nil, or_false] at hj; rcases hj with rfl | rfl; exact .inl rfl; exact .inr (hp 8 (by kernel_rfl))), ⟨_, upd_at _ _ _, hJ.below.size, by (try simp only); rw [upd_ne _ _ _ _ (by decide), hv9]; exact alloc_new0 _ _⟩, fun g hg => .inl (by rw [upd_at] at hg; cases hg; exact Nat.le_refl _)⟩))
                  case o13_10 =>
                    intro LX V aX wX K hl hp hcl hf hJ hK
                    have t140 := hf.in (i := 9) (d := 140) (by kernel_rfl) (hp 9 (by kernel_rfl)) rfl
                    rw [if_pos (by rfl)]
                    have hq3 := hJ.at ⟨2, 9, 9, none, [8], fun V w => IsLit w7 28 1 #[V 8] (V 9) w⟩ (List.mem_of_getElem? (i := 2) rfl) (lor (hp 9 (by kernel_rfl))) trivial
                    obtain ⟨g10, hv10, _, h10⟩ := hq3
                    try simp only at hv10
                    rw [hv10] at t140
                    go_simp
                    refine (HOF.out _ _ _ _).mono ?_
                    rintro e wA ⟨rfl, hgA⟩
                    exact hK _ _ (hJ.step HOK 10 _ hl (by kernel_rfl) trivial none (grown_below hgA.1) (.inl rfl) (new_one (by kernel_rfl) ⟨3, 10, 10, none, [9], fun V w => V 10 = .agg #[V 9]⟩ (List.mem_of_getElem? (i := 3) rfl) rfl ⟨(fun j hj => by simp only [List.mem_cons, List.not_mem_nil, or_false] at hj; rcases hj with rfl | rfl; exact .inl rfl; exact .inr (hp 9 (by kernel_rfl))), by (try simp only); rw [upd_at, upd_ne _ _ _ _ (by decide), hv10], fun g hg => by rw [upd_at] at hg; cases hg⟩))
                  case o13_11 =>
                    intro LX V aX wX K hl hp hcl hf hJ hK
                    rw [if_pos (by rfl)]
                    go_simp
                    exact hK _ _ (hJ.step HOK 11 _ hl (by kernel_rfl) trivial none (World.grownBy_alloc _ _ _) (.inl rfl) (new_one (by kernel_rfl) ⟨4, 11, 11, some 12, [], fun V w => IsBlk w7 25 #[.slice none 0 0] (V 11) w⟩ (List.mem_of_getElem? (i := 4) rfl) rfl ⟨(fun j hj => by rcases hj with rfl | hj; exact .inl rfl; cases hj), ⟨_, upd_at _ _ _, hJ.below.size, alloc_new0 _ _⟩, fun g hg => .inl (by rw [upd_at] at hg; cases hg; exact Nat.le_refl _)⟩))
                  case o13_12 =>
                    intro LX V aX wX K hl hp hcl hf hJ hK
                    have t21 := hf.in (i := 11) (d := 21) (by kernel_rfl) (hp 11 (by kernel_rfl)) rfl
                    have t141 := hf.in (i := 10) (d := 141) (by kernel_rfl) (hp 10 (by kernel_rfl)) rfl
                    have hq4 := hJ.at ⟨3, 10, 10, none, [9], fun V w => V 10 = .agg #[V 9]⟩ (List.mem_of_getElem? (i := 3) rfl) (lor (hp 10 (by kernel_rfl))) trivial
                    have hq3 := hJ.at ⟨2, 9, 9, none, [8], fun V w => IsLit w7 28 1 #[V 8] (V 9) w⟩ (List.mem_of_getElem? (i := 2) rfl) (lor (hp 9 (by kernel_rfl))) trivial
                    rw [if_pos (by rfl)]
                    have hq0 := hJ.at ⟨4, 11, 11, some 12, [], fun V w => IsBlk w7 25 #[.slice none 0 0] (V 11) w⟩ (List.mem_of_getElem? (i := 4) rfl) (lor (hp 11 (by kernel_rfl))) hl
                    obtain ⟨g, hg, hg1, hg2⟩ := hq0
                    have tp := t21
                    try simp only at hg
                    rw [hg] at tp
                    obtain ⟨g10, hv10, _, h10⟩ := hq3
                    try simp only at hv10 hq4
                    rw [hq4, hv10] at t141
                    refine wp_store_row _ _ _ rfl g #[.slice (some ⟨g10, 0, none⟩) 1 1] (by simp [Act.eval, tp]) (by simp [Act.eval, t141]) _ _ hg2 (by kernel_rfl) rfl (by kernel_rfl) ?_
                    exact hK _ _ (hJ.step HOK 12 _ hl (by kernel_rfl) trivial (some g) (grown_setRow _ _ _) (.inr ⟨⟨4, 11, 11, some 12, [], fun V w => IsBlk w7 25 #[.slice none 0 0] (V 11) w⟩, List.mem_of_getElem? (i := 4) rfl, rfl, lor (hp 11 (by kernel_rfl)), by (try simp only); rw [hg]; rfl⟩) (new_one (by kernel_rfl) ⟨5, 11, 12, none, [9], fun V w => IsBlk w7 25 #[V 9] (V 11) w⟩ (List.mem_of_getElem? (i := 5) rfl) rfl ⟨(fun j hj => by simp only [List.mem_cons, List.not_mem_nil, or_false] at hj; rcases hj with rfl | rfl; exact .inr (hp 11 (by kernel_rfl)); exact .inr (hp 9 (by kernel_rfl))), ⟨g, (upd_ne _ _ _ _ (by decide)).trans hg, hg1, by (try simp only); rw [upd_ne _ _ _ _ (by decide), hv10]; exact setRow_heap _ _ _ _ _ _ hg2⟩, fun g' hg' => .inr (by simp only at hg'; rw [upd_ne _ _ _ _ (by decide), hg] at hg'; exact hg')⟩))
                intro V w8 hJ
                have hq2 := hJ.at ⟨1, 8, 8, none, [], fun V w => OwnP w w7.heap.size (V 8) ([high, ⟨low.x, high.y⟩] ++ Q)⟩ (List.mem_of_getElem? (i := 1) rfl) (by kernel_rfl) trivial
                have hq3 := hJ.at ⟨2, 9, 9, none, [8], fun V w => IsLit w7 28 1 #[V 8] (V 9) w⟩ (List.mem_of_getElem? (i := 2) rfl) (by kernel_rfl) trivial
                have hq6 := hJ.at ⟨5, 11, 12, none, [9], fun V w => IsBlk w7 25 #[V 9] (V 11) w⟩ (List.mem_of_getElem? (i := 5) rfl) (by kernel_rfl) trivial
                have HB8 := Lib.hid hJ.below
                obtain ⟨g21, hv21, hg21, h21⟩ := hq6
                obtain ⟨g11, hv11, _, h11⟩ := hq3
                try simp only at hv21 h21 hv11 h11
                rw [hv11] at h21
                obtain ⟨ao8, c8, hv8, hp8⟩ := OwnP.pts hq2
                rw [hv8] at h11
                have hr8 := rings_one hp8 h11
                have H8 := Lib.hid (And.intro h21 hr8)
                simp only [puts, Act.put, List.setIfInBounds_toArray, List.set_cons_zero, List.set_cons_succ]
                rw [hv21]
                clear hJ hq2 hv21 h21 hv11 h11 hv8 hp8 hr8 HOK
                clear HCELLS HLINE HLN3
                have HT8 := Lib.hid (HT7.out.step HB8.out)
                have h20 := (HB8.out.block _ (heap_lt' H7.out.1)).trans H7.out.1
                have HCELLS : Hid (∀ wX, Below w8.heap.size w8 wX → wX.cell? ⟨w.heap.size, 0, none⟩ = some (.int .i64 p.x) ∧ wX.cell? ⟨w.heap.size, 1, none⟩ = some (.int .i64 p.y) ∧ wX.cell? ⟨g20, 0, none⟩ = some (.slice (some ⟨g10, 0, none⟩) 1 1) ∧ wX.cell? ⟨g21, 0, none⟩ = some (.slice (some ⟨g11, 0, none⟩) 1 1)) := Lib.hid (fun wX hX => by
                  obtain ⟨q1, q2, _, _⟩ := pt_cells ((hX.block _ (heap_lt' HT8.out.1)).trans HT8.out.1)
                  exact ⟨q1, q2, cell_of_row _ _ _ _ _ _ ((hX.block _ (heap_lt' h20)).trans h20), cell_of_row _ _ _ _ _ _ ((hX.block _ (heap_lt' H8.out.1)).trans H8.out.1)⟩)
                have hx1 : ∀ wX, Below w8.heap.size w8 wX → _ := fun wX hX => In_region p _ 1 1 _ wX ((H7.out.2.later HB8.out (Nat.le_refl _)).later hX (Nat.le_refl _))
                have hx2 : ∀ wX, Below w8.heap.size w8 wX → _ := fun wX hX => In_region p _ 1 1 _ wX (H8.out.2.later hX (Nat.le_refl _))
                obtain ⟨x, hx⟩ : ∃ x, x = inR p [[low, ⟨high.x, low.y⟩] ++ Q.reverse] := ⟨_, rfl⟩
                obtain ⟨y, hy⟩ : ∃ x, x = inR p [[high, ⟨low.x, high.y⟩] ++ Q] := ⟨_, rfl⟩
                rw [← hx] at hx1
                rw [← hy] at hx2
                have hlaw := tiles_law (p := p) (low := low) (high := high) (a := a) (b := b) (C := C) (wide := wide) (tall := tall) HVV.out.1.symm HVV.out.2.symm q1 q2 HWT.out.1 HWT.out.2 ⟨HAB.out.1, by rw [HAB.out.2.1]; omega, by rw [HAB.out.2.1]; have := HWT.out.2; omega⟩ ⟨HAB.out.2.2.1, by rw [HAB.out.2.2.2]; omega, by rw [HAB.out.2.2.2]; have := HWT.out.2; omega⟩ m
                rw [← HLL.out, ← HQL.out.1] at hlaw
                have hxe : x = inP p (underP low high Q) := by rw [hx]; simp [inR, underP]
                have hye : y = inP p (overP low high Q) := by rw [hy]; simp [inR, overP]
                rw [← hxe, ← hye] at hlaw
                have HLAW := Lib.hid hlaw
                unfold ptV at hx1 hx2
                have HI1 := Lib.hid hx1
                have HI2 := Lib.hid hx2
                clear hx hy hxe hye hlaw hx1 hx2 h20
                go_wp2_with fail
                refine wp_region_J (s := [(142, 0), (143, 1), (144, 2), (145, 3), (146, 4), (147, 5), (22, 6), (23, 7)]) (by kernel_rfl) (StdJ w8 (fun iX => match iX with | 0 => some (.agg #[.int .i64 p.x, .int .i64 p.y]) | 1 => some (.agg #[.slice (some ⟨g10, 0, none⟩) 1 1]) | 2 => some (.bool x) | 3 => some (.agg #[.int .i64 p.x, .int .i64 p.y]) | 4 => some (.agg #[.slice (some ⟨g11, 0, none⟩) 1 1]) | 5 => some (.bool y) | 6 => some (.bool x) | 7 => some (.bool y) | _ => none) []) (by kernel_rfl) (by kernel_rfl) (by kernel_rfl) (by kernel_rfl) (fun _ => undef) ?start14 ?step14 ?done14
                case start14 => exact StdJ.start ((Below.refl _ _).drew)
                case step14 =>
                  refine ⟨?o14_0, ?o14_1, ?o14_2, ?o14_3, ?o14_4, ?o14_5, ?o14_6, ?o14_7, trivial⟩
                  case o14_0 =>
                    intro LX V aX wX K hl hp hcl hf hJ hK
                    have t6 : aX.tmps[6]? = some (.pointer (some ⟨w.heap.size, 0, none⟩)) := hf.old (by kernel_rfl) rfl
                    obtain ⟨c0, c1, c2, c3⟩ := HCELLS.out wX hJ.below
                    rw [if_pos (by rfl)]
                    go_simp
                    exact hK _ _ (hJ.val (Below.refl _ _) 0 _ (by kernel_rfl) rfl)
                  case o14_1 =>
                    intro LX V aX wX K hl hp hcl hf hJ hK
                    have t20 : aX.tmps[20]? = some (.pointer (some ⟨g20, 0, none⟩)) := hf.old (by kernel_rfl) rfl
                    obtain ⟨c0, c1, c2, c3⟩ := HCELLS.out wX hJ.below
                    rw [if_pos (by rfl)]
                    go_simp
                    exact hK _ _ (hJ.val (Below.refl _ _) 1 _ (by kernel_rfl) rfl)
                  case o14_2 =>
                    intro LX V aX wX K hl hp hcl hf hJ hK
                    have t142 := hf.in (i := 0) (d := 142) (by kernel_rfl) (hp 0 (by kernel_rfl)) (hJ.vals 0 _ rfl (hp 0 (by kernel_rfl)))
                    have t143 := hf.in (i := 1) (d := 143) (by kernel_rfl) (hp 1 (by kernel_rfl)) (hJ.vals 1 _ rfl (hp 1 (by kernel_rfl)))
                    rw [if_pos (by rfl)]
                    go_simp
                    refine (HI1.out _ hJ.below).mono ?_
                    rintro e wA ⟨rfl, hbA⟩
                    exact hK _ _ (hJ.val (hbA) 2 _ (by kernel_rfl) rfl)
                  case o14_3 =>
                    intro LX V aX wX K hl hp hcl hf hJ hK
                    have t6 : aX.tmps[6]? = some (.pointer (some ⟨w.heap.size, 0, none⟩)) := hf.old (by kernel_rfl) rfl
                    obtain ⟨c0, c1, c2, c3⟩ := HCELLS.out wX hJ.below
                    rw [if_pos (by rfl)]
                    go_simp
                    exact hK _ _ (hJ.val (Below.refl _ _) 3 _ (by kernel_rfl) rfl)
                  case o14_4 =>
                    intro LX V aX wX K hl hp hcl hf hJ hK
                    have t21 : aX.tmps[21]? = some (.pointer (some ⟨g21, 0, none⟩)) := hf.old (by kernel_rfl) rfl
                    obtain ⟨c0, c1, c2, c3⟩ := HCELLS.out wX hJ.below
                    rw [if_pos (by rfl)]
                    go_simp
                    exact hK _ _ (hJ.val (Below.refl _ _) 4 _ (by kernel_rfl) rfl)
                  case o14_5 =>
                    intro LX V aX wX K hl hp hcl hf hJ hK
                    have t145 := hf.in (i := 3) (d := 145) (by kernel_rfl) (hp 3 (by kernel_rfl)) (hJ.vals 3 _ rfl (hp 3 (by kernel_rfl)))
                    have t146 := hf.in (i := 4) (d := 146) (by kernel_rfl) (hp 4 (by kernel_rfl)) (hJ.vals 4 _ rfl (hp 4 (by kernel_rfl)))
                    rw [if_pos (by rfl)]
                    go_simp
                    refine (HI2.out _ hJ.below).mono ?_
                    rintro e wA ⟨rfl, hbA⟩
                    exact hK _ _ (hJ.val (hbA) 5 _ (by kernel_rfl) rfl)
                  case o14_6 =>
                    intro LX V aX wX K hl hp hcl hf hJ hK
                    have t144 := hf.in (i := 2) (d := 144) (by kernel_rfl) (hp 2 (by kernel_rfl)) (hJ.vals 2 _ rfl (hp 2 (by kernel_rfl)))
                    rw [if_pos (by rfl)]
                    go_simp
                    exact hK _ _ (hJ.val (Below.refl _ _) 6 _ (by kernel_rfl) rfl)
                  case o14_7 =>
                    intro LX V aX wX K hl hp hcl hf hJ hK
                    have t147 := hf.in (i := 5) (d := 147) (by kernel_rfl) (hp 5 (by kernel_rfl)) (hJ.vals 5 _ rfl (hp 5 (by kernel_rfl)))
                    rw [if_pos (by rfl)]
                    go_simp
                    exact hK _ _ (hJ.val (Below.refl _ _) 7 _ (by kernel_rfl) rfl)
                intro V w9 hJ
                have hvx := hJ.vals 6 _ rfl (by kernel_rfl)
                have hvy := hJ.vals 7 _ rfl (by kernel_rfl)
                have HB9 := Lib.hid hJ.below
                simp only [puts, Act.put, List.setIfInBounds_toArray, List.set_cons_zero, List.set_cons_succ]
                rw [hvx, hvy]
                clear hJ hvx hvy
                clear HCELLS
                have HT9 := Lib.hid (HT8.out.step HB9.out)
                obtain ⟨z0, z1, _, _⟩ := pt_cells HT9.out.1
                obtain ⟨z2, z3, _, _⟩ := pt_cells HT9.out.2.1
                obtain ⟨z4, z5, _, _⟩ := pt_cells HT9.out.2.2.1
                obtain ⟨bx, hbx⟩ : ∃ x, x = boxIn p low high := ⟨_, rfl⟩
                have HIB := Lib.hid (In_any p low high)
                rw [← hbx] at HIB HLAW
                unfold ptV boxV at HIB
                clear hbx
                cases bx with
                | false =>
                  obtain ⟨rfl, rfl⟩ := HLAW.out.2 rfl
                  go_wp2_with fail
                  refine (HIB.out _).mono ?_
                  rintro e w10 ⟨rfl, hg10⟩
                  have HB10 := Lib.hid (HT9.out.2.2.2.trans (hg10.1.mono HT9.out.2.2.2.size))
                  clear hg10 z0 z1 z2 z3 z4 z5
                  go_wp2_with fail
                  go_ret
                  exact ⟨rfl, HB10.out⟩
                | true =>
                  have hxy := HLAW.out.1
                  cases x <;> cases y <;> (first | (exfalso; exact absurd hxy (by decide)) | skip)
                  all_goals (
                    clear hxy
                    go_wp2_with fail
                    refine (HIB.out _).mono ?_
                    rintro e w10 ⟨rfl, hg10⟩
                    have HB10 := Lib.hid (HT9.out.2.2.2.trans (hg10.1.mono HT9.out.2.2.2.size))
                    clear hg10 z0 z1 z2 z3 z4 z5
                    go_wp2_with fail
                    go_ret
                    exact ⟨rfl, HB10.out⟩)
end Go.Proofs.Ytgijaaklhdcgeaa
