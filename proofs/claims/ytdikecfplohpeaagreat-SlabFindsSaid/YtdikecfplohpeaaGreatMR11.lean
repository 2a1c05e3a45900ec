/- apportionkit.CopyRings -/
import Derived.Test.YtdikecfplohpeaaGreatMQLay
import Derived.Test.YtdikecfplohpeaaGreatMQUnlike
import Derived.Test.YtdikecfplohpeaaGreatMQRCheck
import Derived.Test.YtdikecfplohpeaaGreatMR12
import Derived.Test.YtdikecfplohpeaaGreatMR10b
import Derived.Test.YtdikecfplohpeaaGreatMRegC
import Derived.Test.YtdikecfplohpeaaGreatMSlab2
import Derived.IntWalk
import Derived.Test.YtdikecfplohpeaaGreatMQIn2
namespace Go.Proofs.YtdikecfplohpeaaGreat
open Go.RowKit Go.Geo
theorem take_moreR {R : List (List Pt)} {k : Nat} (hk : k < R.length) : R.take (k + 1) = R.take k ++ [R.getD k []] := by
  rw [List.take_succ_eq_append_getElem hk, List.getD_eq_getElem?_getD, List.getElem?_eq_getElem hk]; rfl
/-- rings that are not many, nor long. -/
def Small (R : List (List Pt)) : Prop := R.length ≤ 100000 ∧ ∀ k, k < R.length → (R.getD k []).length ≤ 100000
set_option maxRecDepth 100000 in
set_option maxHeartbeats 2000000 in
theorem CopyRings_any (ao : Option Addr) (n cap : Nat) (R : List (List Pt)) (w : World) (h : IsRings w ao n cap R) (hs : Small R) :
    Calls Tryz.prog 18 #[.slice ao n cap] w fun e w' => ∃ v, e = .returned v ∧ OwnR w' w.heap.size v R ∧ Below w.heap.size w w' := by
  have HI := Lib.hid h
  have HL : Hid (R.length = n) := h.1
  have HS := Lib.hid hs
  have hcm := h.2.2.1
  have hnc := h.2.1
  have hn : n ≤ 100000 := by rw [← h.1]; exact hs.1
  obtain ⟨base, hbase⟩ : ∃ b, b = w.heap.size := ⟨_, rfl⟩
  have HB := Lib.hid hbase
  rw [← hbase]
  unfold maxLen at hcm
  clear h hs hbase
  go_enter Tryz.func18, Tryz.ntmps18
  go_wp2
  go_loopw [3, 4] (fun v i wr => ∃ k : Nat, k ≤ n ∧ i = .int .i64 k ∧ Hid (OwnR wr base v (R.take k)) ∧ Hid (Below base w wr)) (fun _ i _ => n - (intOf i).toNat)
  case atStart => exact ⟨0, by omega, rfl, OwnR.nil _ _, Below.refl _ _⟩
  case round =>
    obtain ⟨k, hk, rfl, hown, hbl⟩ := hrel
    by_cases hlt : k < n
    · have hi0 : (0 : Int) ≤ (k : Int) := by omega
      have hi5 : (k : Int) < (n : Int) := by omega
      obtain ⟨b, off, x, y, z, rfl, e0, hp⟩ := (HI.out.later hbl.out (by rw [HB.out]; exact Nat.le_refl _)).2.2.2.2 k hlt
      obtain ⟨P, hP⟩ : ∃ P, P = R.getD k [] := ⟨_, rfl⟩
      rw [← hP] at hp
      have hpl : P.length ≤ 100000 := by rw [hP]; exact HS.out.2 k (by rw [HL.out]; exact hlt)
      have hyl : y = P.length := hp.1.symm
      have HBZ : Hid (base ≤ wr.heap.size) := by
        have := hbl.out.size
        rw [HB.out]; exact this
      have HT : Hid (R.take (k + 1) = R.take k ++ [P]) := by rw [hP]; exact take_moreR (by rw [HL.out]; exact hlt)
      have hTl : (R.take k).length ≤ 4294967296 := by rw [List.length_take]; omega
      have HTL := Lib.hid hTl
      have hal : Below wr.heap.size wr (wr.alloc (Obj.cells #[] 40)) := (Below.refl _ _).alloc (Nat.le_refl _) _
      have HAL := Lib.hid hal
      have HPP := Lib.hid (hp.later hal (Nat.le_refl _))
      have HYL : Hid (y ≤ 100000) := by rw [hyl]; exact Lib.hid hpl
      have e1 : (wr.alloc (Obj.cells #[] 40)).cell? ⟨b, off + k, none⟩ = some (.slice x y z) := (hal.cell (p := ⟨b, off + k, none⟩) (block_lt_of_cell e0)).trans e0
      clear hp hP hpl hyl hTl hal
      go_wp2_with (first
        | (at_builtin; refine wpList_append_pts rfl _ _ rfl wr.heap.size (.slice (some ⟨wr.heap.size, 0, none⟩) 0 0) [] rfl (OwnP.none_new wr _ (Nat.le_refl _)) _ _ _ P rfl HPP.out (by have := HYL.out; simp; omega) HAL.out.size ?_
           intro v5 w5 hown5 hg5
           have hb5 : Below wr.heap.size wr w5 := HAL.out.grown hg5 HAL.out.size (fun k hk => by simp only [Value.ownBlock, Option.some.injEq] at hk; omega)
           have ho5 : OwnP w5 wr.heap.size v5 P := hown5
           obtain ⟨a5, c5, hv5, _⟩ := ho5.pts
           subst hv5
           have H5 := Lib.hid (And.intro hb5 ho5)
           clear hown5 hg5 hb5 ho5)
        | (at_builtin; refine wpList_append_rings rfl _ _ rfl base _ (R.take k) rfl (hown.out.later (H5.out.1.alloc H5.out.1.size _)) w5.heap.size rfl a5 c5 P ((H5.out.2.later ((Below.refl _ _).alloc (Nat.le_refl _) _)).base HBZ.out) (alloc_new _ _) HTL.out (Nat.le_trans HBZ.out (Nat.le_trans H5.out.1.size (by simp))) ?_
           intro v7 w7 hown7 hg7
           have H7 := Lib.hid (And.intro hown7 ((hbl.out.trans ((H5.out.1.alloc H5.out.1.size _).mono HBZ.out)).grown hg7 (Nat.le_trans HBZ.out (Nat.le_trans H5.out.1.size (by simp))) (fun k hk => (hown.out.lt k hk).1)))
           clear hown7 hg7))
      go_roundw
      case rel => exact ⟨k + 1, by omega, by go_num, by rw [HT.out]; exact H7.out.1, H7.out.2⟩
      case measure => simp [intOf]; omega
    · obtain rfl : k = n := by omega
      go_wp2
      go_ret
      refine ⟨_, rfl, ?_, hbl.out⟩
      have := hown.out
      rw [List.take_of_length_le (by rw [HL.out]; exact Nat.le_refl _)] at this
      exact this
end Go.Proofs.YtdikecfplohpeaaGreat

/- apportionkit.OverRegion: points of the call's own, written over -/
set_option linter.unusedSimpArgs false
set_option linter.unusedVariables false
namespace Go.Proofs.YtdikecfplohpeaaGreat
open Go.RowKit Go.Geo
attribute [local go_sem] Oper.semAt_some
/-- nothing has turned but rows of points between two blocks. -/
structure Mid (B L : Nat) (w w' : World) : Prop where
  low : Below B w w'
  high : ∀ k, L ≤ k → w'.heap[k]? = w.heap[k]?
  other : ∀ (k : Nat) (c : Array Value) (t : Nat), w.heap[k]? = some (.cells c t (0, 0)) → t ≠ 40 → w'.heap[k]? = w.heap[k]?
  row : ∀ (k : Nat) (c : Array Value), w.heap[k]? = some (.cells c 40 (0, 0)) → ∃ c', w'.heap[k]? = some (.cells c' 40 (0, 0)) ∧ c'.size = c.size
theorem Mid.refl (B L : Nat) (w : World) : Mid B L w w := ⟨Below.refl _ _, fun _ _ => rfl, fun _ _ _ _ _ => rfl, fun k c h => ⟨c, h, rfl⟩⟩
theorem Mid.put {B L : Nat} {w0 w : World} (h : Mid B L w0 w) {g : Nat} (hB : B ≤ g) (hL : g < L) {c : Array Value} (hg : w.heap[g]? = some (.cells c 40 (0, 0))) (o : Nat) (v : Value) : Mid B L w0 (w.setCell ⟨g, o, none⟩ v) := by
  have hs := heap_setCell_same w g o c _ v hg
  have hne : ∀ k, k ≠ g → (w.setCell ⟨g, o, none⟩ v).heap[k]? = w.heap[k]? := fun k hk => Below.heap_setCell _ _ _ _ hk
  refine ⟨h.low.setCell (p := ⟨g, o, none⟩) hB v, fun k hk => (hne k (by omega)).trans (h.high k hk), fun k c' t hk ht => ?_, fun k c' hk => ?_⟩
  · have h1 := h.other k c' t hk ht
    by_cases he : k = g
    · subst he
      rw [h1, hk] at hg
      injection hg with hg
      injection hg with _ h2
      exact absurd h2 ht
    · exact (hne k he).trans h1
  · obtain ⟨c2, h1, h2⟩ := h.row k c' hk
    by_cases he : k = g
    · subst he
      rw [hg] at h1
      injection h1 with h1
      injection h1 with h3
      subst h3
      exact ⟨_, hs, by simpa using h2⟩
    · exact ⟨c2, (hne k he).trans h1, h2⟩
def OverPost (B L : Nat) (w : World) (e : Ending) (w' : World) : Prop := ∃ W, e = .returned (.tuple #[]) ∧ Below w.heap.size w W ∧ Mid B L W w'
set_option maxRecDepth 100000 in
set_option maxHeartbeats 4000000 in
theorem OverRegion_any (B : Nat) (ao : Option Addr) (n cap : Nat) (R : List (List Pt)) (w0 w : World) (h : OwnR w0 B (.slice ao n cap) R) (hs : Small R) (hb : Below w0.heap.size w0 w) (hB : B ≤ w0.heap.size) :
    Calls Tryz.prog 10 #[.agg #[.slice ao n cap]] w (OverPost B w0.heap.size w) := by
  obtain ⟨L, hL⟩ : ∃ L, L = w0.heap.size := ⟨_, rfl⟩
  obtain ⟨W, hW⟩ : ∃ W, W = w.alloc (.cells #[.slice ao n cap] 24) := ⟨_, rfl⟩
  have hA : Below w.heap.size w W := by rw [hW]; exact (Below.refl _ _).alloc (Nat.le_refl _) _
  have k0 : W.heap[w.heap.size]? = some (.cells #[.slice ao n cap] 24 (0, 0)) := by rw [hW]; exact alloc_new _ _
  have h0W : Below w0.heap.size w0 W := hb.trans (hA.mono hb.size)
  have hn : n = R.length := by
    obtain ⟨ao', cap', e, _⟩ := h.rings
    injection e
  have hn1 : n ≤ 100000 := by rw [hn]; exact hs.1
  have HA := Lib.hid hA
  -- what the outer row holds, in the world of the loop
  have HR : Hid (∀ k, k < n → ∃ b off x y z, ao = some ⟨b, off, none⟩ ∧ (∀ wr, Mid B L W wr → wr.cell? ⟨b, off + k, none⟩ = some (.slice x y z)) ∧ y ≤ 100000 ∧ (0 < y → ∃ g, x = some ⟨g, 0, none⟩ ∧ B ≤ g ∧ g < L ∧ ∃ c, W.heap[g]? = some (.cells c 40 (0, 0)) ∧ y * 2 ≤ c.size)) := by
    refine Lib.hid fun k hk => ?_
    obtain ⟨vs, h1, h2, h3⟩ := h
    obtain ⟨u, hu, ho⟩ := h3 k (by omega)
    have hyl : (R.getD k []).length ≤ 100000 := hs.2 k (by omega)
    rcases h2.2 with ⟨e, h0⟩ | ⟨g, cp, cur, e, hbg, hg, hnc, hm, hsz, ht⟩
    · omega
    · injection e with e1 e2 e3
      subst e1
      have hgW : W.heap[g]? = some (.cells cur 25 (0, 0)) := (h0W.block g (heap_lt' hg)).trans hg
      have hcu : cur[k]? = some u := by
        rw [← ht] at hu
        rw [List.getElem?_take, if_pos (by omega)] at hu
        simpa using hu
      obtain ⟨x, z, rfl, _⟩ := ho.pts
      refine ⟨g, 0, x, (R.getD k []).length, z, rfl, fun wr hm => ?_, hyl, fun hy => ?_⟩
      · rw [Nat.zero_add, cell_of_row _ _ _ _ _ _ ((hm.other g _ _ hgW (by decide)).trans hgW), hcu]
      · rcases ho.2 with ⟨e, h0⟩ | ⟨g2, cp2, cur2, e, hbg2, hg2, hnc2, hm2, hsz2, ht2⟩
        · omega
        · injection e with e1 e2 e3
          subst e1
          exact ⟨g2, rfl, hbg2, by rw [hL]; exact heap_lt' hg2, cur2, (h0W.block g2 (heap_lt' hg2)).trans hg2, by rw [hsz2]; exact Nat.mul_le_mul_right 2 hnc2⟩
  have HC : Hid (∀ wr, Mid B L W wr → wr.cell? ⟨w.heap.size, 0, none⟩ = some (.slice ao n cap)) := Lib.hid (fun wr hm => cell_of_row _ _ _ _ _ _ ((hm.other _ _ _ k0 (by decide)).trans k0))
  clear h hs hn hA h0W hb hB k0
  rw [← hL]
  clear hL
  go_enter Tryz.func10, Tryz.ntmps10
  go_wp2_with fail
  rw [← hW]
  clear hW
  go_loopw [2] (fun i wr => ∃ k : Nat, k ≤ n ∧ i = .int .i64 k ∧ Hid (Mid B L W wr)) (fun i _ => n - (intOf i).toNat)
  case atStart => exact ⟨0, by omega, rfl, Mid.refl _ _ _⟩
  case round =>
    obtain ⟨k, hk, rfl, hM⟩ := hrel
    have c0 := HC.out wr hM.out
    by_cases hlt : k < n
    · have hi0 : (0 : Int) ≤ (k : Int) := by omega
      have hi5 : (k : Int) < (n : Int) := by omega
      have hwk : IntKind.i64.wrap ((k : Int) + 1) = (k : Int) + 1 := IntWalk.i64_in _ (by omega)
      obtain ⟨b, off, x, y, z, rfl, hcell, hy, hrow⟩ := HR.out k hlt
      have HCL := Lib.hid hcell
      have HRW := Lib.hid hrow
      clear hcell hrow
      go_wp2_with fail
      clear c0
      go_loopw [3] (fun i wj => ∃ j : Nat, j ≤ y ∧ i = .int .i64 j ∧ Hid (Mid B L W wj)) (fun i _ => y - (intOf i).toNat)
      case atStart => exact ⟨0, by omega, rfl, hM⟩
      case round =>
        clear hM
        obtain ⟨j, hj, rfl, hM⟩ := hrel
        have c0 := HC.out wr hM.out
        have c1 := HCL.out wr hM.out
        have hj0 : (0 : Int) ≤ (j : Int) := by omega
        by_cases hjy : j < y
        · have hj5 : (j : Int) < (y : Int) := by omega
          have hwj : IntKind.i64.wrap ((j : Int) + 1) = (j : Int) + 1 := IntWalk.i64_in _ (by omega)
          obtain ⟨g, rfl, hgB, hgL, c, hgW, hsz⟩ := HRW.out (by omega)
          obtain ⟨c', hg', hsz'⟩ := hM.out.row g c hgW
          have hlt0 : j * 2 < c'.size := by omega
          have hlt1 : j * 2 + 1 < c'.size := by omega
          obtain ⟨v0, hv0⟩ : ∃ v, c'[j * 2]? = some v := ⟨_, Array.getElem?_eq_getElem hlt0⟩
          obtain ⟨v1, hv1⟩ : ∃ v, c'[j * 2 + 1]? = some v := ⟨_, Array.getElem?_eq_getElem hlt1⟩
          have e0 : wr.cell? ⟨g, j * 2, none⟩ = some v0 := (cell_of_row _ _ _ _ _ _ hg').trans hv0
          have e1 : wr.cell? ⟨g, j * 2 + 1, none⟩ = some v1 := (cell_of_row _ _ _ _ _ _ hg').trans hv1
          have f0 : wr.frozen? ⟨g, j * 2, none⟩ = false := frozen_of_row _ _ _ _ _ hg'
          have f1 : wr.frozen? ⟨g, j * 2 + 1, none⟩ = false := frozen_of_row _ _ _ _ _ hg'
          have HG := Lib.hid (And.intro hgB (And.intro hgL hg'))
          clear hgB hgL hgW hsz hg' hsz' hlt0 hlt1 hv0 hv1
          go_wp2_with fail
          go_roundw
          case rel => exact ⟨j + 1, by omega, by go_num, Lib.hid ((hM.out.put HG.out.1 HG.out.2.1 HG.out.2.2 _ _).put HG.out.1 HG.out.2.1 (heap_setCell_same _ _ _ _ _ _ HG.out.2.2) _ _)⟩
          case measure => simp [intOf]; omega
        · have hjy2 : y = j := by omega
          subst hjy2
          have hj5 : ¬ (y : Int) < (y : Int) := by omega
          go_wp2_with fail
          go_roundw
          case rel => exact ⟨k + 1, by omega, by go_num, hM⟩
          case measure => simp [intOf]; omega
    · have hkn : n = k := by omega
      subst hkn
      have hi5 : ¬ (n : Int) < (n : Int) := by omega
      go_wp2_with fail
      refine bodyPost_ret (results_none rfl _ _ _) rfl ?_
      exact ⟨W, rfl, HA.out, hM.out⟩
end Go.Proofs.YtdikecfplohpeaaGreat

/- two faults, one by one; a copy of a region; the document's Check in full -/
set_option linter.unusedSimpArgs false
set_option linter.unusedVariables false
namespace Go.Proofs.YtdikecfplohpeaaGreat
open Go.RowKit Go.Geo
attribute [local go_sem] Oper.semAt_some
theorem fieldsF : Tryz.prog.underlying 32 = some (.struct (Tryz.prog.fieldsOf 32)) := by kernel_rfl
theorem heldF : Tryz.prog.stoodInHeld 32 = false := by kernel_rfl
theorem fieldsFI : (Tryz.prog.fieldsOf 32).toList.map (fun f => (decide (f.name ≠ "_"), f.type, f.offset)) = [(true, 30, 0), (true, 3, 1)] := by kernel_rfl
theorem isAggE (w : World) : (isAgg 30).run Tryz.prog w = .ok false w := by
  simp [isAgg, run_underlying Tryz.underlying30]
theorem part_errno (xs : Array Value) (o : Nat) (v : Value) (h : xs[o]? = some v) (w : World) : (part 30 xs o).run Tryz.prog w = .ok v w := by
  simp [part, h]
theorem eqFields_consE (d : Nat) (xs ys : Array Value) (f : Field) (fs : List Field) (o : Nat) (a b : Int) (w : World) (hn : decide (f.name ≠ "_") = true) (ht : f.type = 30) (ho : f.offset = o)
    (hx : xs[o]? = some (.int .i64 a)) (hy : ys[o]? = some (.int .i64 b)) :
    (Op.eqFields (d + 1) xs ys (f :: fs)).run Tryz.prog w = if (a == b) = true then (Op.eqFields (d + 1) xs ys fs).run Tryz.prog w else .ok false w := by
  have hn' : f.name ≠ "_" := of_decide_eq_true hn
  rw [Op.eqFields, if_pos hn', ht, ho]
  simp only [Sem.run_bind, part_errno xs o _ hx, part_errno ys o _ hy, Result.andThen_ok, run_equalIn_int w d 30 .i64 .i64 a b Tryz.underlying30]
  cases (a == b) <;> simp
theorem eqF (a b c d : Int) (w : World) : (Op.equalIn 10000 32 (.agg #[.int .i64 a, .int .i64 b]) (.agg #[.int .i64 c, .int .i64 d])).run Tryz.prog w = .ok (decide (a = c) && decide (b = d)) w := by
  have hf := fieldsFI
  rw [run_equalIn_agg _ _ _ _ _ fieldsF heldF]
  generalize (Tryz.prog.fieldsOf 32).toList = fs at hf
  obtain _ | ⟨f0, _ | ⟨f1, _ | ⟨f2, fs⟩⟩⟩ := fs <;> simp only [List.map_cons, List.map_nil, List.cons.injEq, Prod.mk.injEq, and_false, and_true, List.cons_ne_nil, List.nil_eq] at hf
  obtain ⟨⟨n0, t0, o0⟩, ⟨n1, t1, o1⟩⟩ := hf
  rw [eqFields_consE 9998 _ _ f0 _ 0 a c w n0 t0 o0 rfl rfl, eqFields_cons 9998 _ _ f1 _ 1 b d w n1 t1 o1 rfl rfl]
  unfold Op.eqFields
  by_cases h1 : a = c <;> by_cases h2 : b = d <;> simp [h1, h2]
theorem run_eqF (a b c d : Int) (w : World) : (binOp .eql 32 (.agg #[.int .i64 a, .int .i64 b]) (.agg #[.int .i64 c, .int .i64 d])).run Tryz.prog w = .ok (.bool (decide (a = c) && decide (b = d))) w := by
  rw [run_eql_struct, eqF]
  rfl
theorem fieldF0 (a b : Value) (w : World) : (Instr.field 32 (.agg #[a, b]) 0).run Tryz.prog w = .ok a w := by kernel_rfl
theorem run_neF (a b : Int) (w : World) : (binOp .neq 32 (.agg #[.int .i64 a, .int .i64 b]) (.agg #[.int .i64 a, .int .i64 b])).run Tryz.prog w = .ok (.bool false) w := by
  rw [run_neq_struct, eqF, decide_eq_true rfl, decide_eq_true rfl]
  rfl
theorem rCheck_ring (ao : Option Addr) (n cap : Nat) (P : List Pt) (w : World) (h : IsPts w ao n cap P) :
    Calls Tryz.prog 23 #[.slice ao n cap] w fun e w' => e = .returned (faultV (ringCheckP P)) ∧ Below w.heap.size w w' :=
  rCheck_of ao n cap P w h (fun k hk wX hX h3 hb => rback_any ao n cap P k wX hX hk h3 hb)
theorem rCheck_region (ao : Option Addr) (n cap : Nat) (R : List (List Pt)) (w : World) (h : IsRings w ao n cap R) (hs : sumLen R ≤ 1000000000000) :
    Calls Tryz.prog 8 #[.agg #[.slice ao n cap]] w fun e w' => e = .returned (faultV (regionCheckP R)) ∧ Below w.heap.size w w' :=
  rRegionCheck_of rCheck_ring ao n cap R w h hs
set_option maxRecDepth 100000 in
theorem CopyRegion_any (ao : Option Addr) (n cap : Nat) (R : List (List Pt)) (w : World) (h : IsRings w ao n cap R) (hs : Small R) :
    Calls Tryz.prog 6 #[.agg #[.slice ao n cap]] w fun e w' => ∃ v, e = .returned (.agg #[v]) ∧ OwnR w' w.heap.size v R ∧ Below w.heap.size w w' := by
  obtain ⟨W0, hW0⟩ : ∃ W, W = (w.alloc (.cells #[.slice ao n cap] 24)).alloc (.cells #[.slice none 0 0] 24) := ⟨_, rfl⟩
  have a0 : W0.heap[w.heap.size]? = some (.cells #[.slice ao n cap] 24 (0, 0)) := by rw [hW0]; exact (Below.heap_alloc _ _ _ (by simp)).trans (alloc_new _ _)
  have a1 : W0.heap[w.heap.size + 1]? = some (.cells #[.slice none 0 0] 24 (0, 0)) := by rw [hW0]; exact alloc_new2 _ _ _
  have hs0 : W0.heap.size = w.heap.size + 2 := by rw [hW0]; simp
  have hg0 : Below w.heap.size w W0 := by rw [hW0]; exact ((Below.refl _ _).alloc (Nat.le_refl _) _).alloc (by simp) _
  have c0 : W0.cell? ⟨w.heap.size, 0, none⟩ = some (.slice ao n cap) := cell_of_row _ _ _ _ _ _ a0
  have HC := Lib.hid (CopyRings_any ao n cap R W0 (h.later hg0 (Nat.le_refl _)) hs)
  have H0 := Lib.hid (And.intro a1 (And.intro hs0 hg0))
  rw [hW0] at c0
  clear h hs a0 a1 hs0 hg0
  go_enter Tryz.func6, Tryz.ntmps6
  go_wp2_with fail
  rw [← hW0]
  clear hW0 c0
  refine HC.out.mono ?_
  rintro e w1 ⟨v, rfl, ho, hb⟩
  have hr := (hb.block (w.heap.size + 1) (by rw [H0.out.2.1]; omega)).trans H0.out.1
  have k0 : w1.cell? ⟨w.heap.size + 1, 0, none⟩ = some (.slice none 0 0) := cell_of_row _ _ _ _ _ _ hr
  have f0 : w1.frozen? ⟨w.heap.size + 1, 0, none⟩ = false := frozen_of_row _ _ _ _ _ hr
  have HR := Lib.hid hr
  have H1 := Lib.hid (And.intro ho hb)
  obtain ⟨ax, cx, hv, _⟩ := ho.rings
  subst hv
  clear hr ho hb
  go_wp2_with fail
  have hput := heap_setCell_same _ _ 0 _ _ (.slice ax R.length cx) HR.out
  refine bodyPost_ret (results_cell_row rfl _ _ _ _ _ _ _ rfl hput Tryz.underlying24 rfl (by kernel_rfl)) rfl ⟨_, rfl, ?_, ?_⟩
  · exact (H1.out.1.base (by rw [H0.out.2.1]; omega)).setCell HR.out (by decide) (by decide)
  · exact (H0.out.2.2.trans (H1.out.2.mono H0.out.2.2.size)).setCell (p := ⟨w.heap.size + 1, 0, none⟩) (by simp) _
end Go.Proofs.YtdikecfplohpeaaGreat

/- the document's slab: Crossings (printed by mksrcross.py) -/
set_option linter.unusedSimpArgs false
set_option linter.unusedVariables false
namespace Go.Proofs.YtdikecfplohpeaaGreat
open Go.RowKit Go.Shelf Go.Geo
attribute [local go_sem] Oper.semAt_some
theorem crossR_take {p : Pt} {R : List (List Pt)} {k : Nat} (h : k < R.length) : crossR p (R.take (k + 1)) = crossR p (R.take k) + countK p (R.getD k []) := by
  unfold crossR
  rw [take_moreR h, List.map_append, List.sum_append]
  simp
theorem crossR_le (p : Pt) : ∀ R : List (List Pt), crossR p R ≤ sumLen R
  | [] => Nat.le_refl _
  | l :: R => by
    have ih := crossR_le p R
    have h1 : countK p l ≤ l.length := by unfold countK; exact cntB_le _ _
    unfold crossR sumLen at *
    rw [List.map_cons, List.map_cons, List.sum_cons, List.sum_cons]
    omega
set_option maxRecDepth 100000 in
set_option maxHeartbeats 4000000 in
theorem rCross_any (p : Pt) (ao : Option Addr) (n cap : Nat) (R : List (List Pt)) (w : World) (h : IsRings w ao n cap R) (hs : sumLen R ≤ 1000000) :
    Calls Tryz.prog 14 #[ptV p, .agg #[.slice ao n cap]] w fun e w' => e = .returned (.int .i64 (crossR p R : Nat)) ∧ Below w.heap.size w w' := by
  have hcm := h.2.2.1
  have hnc := h.2.1
  have HL := Lib.hid h.1
  unfold maxLen at hcm
  obtain ⟨W2, hW2⟩ : ∃ W, W = (w.alloc (.cells #[.int .i64 p.x, .int .i64 p.y] 40)).alloc (.cells #[.slice ao n cap] 24) := ⟨_, rfl⟩
  have a0 : W2.heap[w.heap.size]? = some (.cells #[.int .i64 p.x, .int .i64 p.y] 40 (0, 0)) := by rw [hW2]; exact (Below.heap_alloc _ _ _ (by simp)).trans (alloc_new _ _)
  have a1 : W2.heap[w.heap.size + 1]? = some (.cells #[.slice ao n cap] 24 (0, 0)) := by rw [hW2]; exact alloc_new2 _ _ _
  have hA : Below w.heap.size w W2 := by rw [hW2]; exact ((Below.refl _ _).alloc (Nat.le_refl _) _).alloc (by simp) _
  have HA := Lib.hid hA
  have HI := Lib.hid (h.later hA (Nat.le_refl _))
  have HC : Hid (∀ wX, Below W2.heap.size W2 wX → wX.cell? ⟨w.heap.size, 0, none⟩ = some (.int .i64 p.x) ∧ wX.cell? ⟨w.heap.size, 1, none⟩ = some (.int .i64 p.y) ∧ wX.cell? ⟨w.heap.size + 1, 0, none⟩ = some (.slice ao n cap)) := Lib.hid (fun wX hX => by
    have b0 := (hX.block _ (heap_lt' a0)).trans a0
    have b1 := (hX.block _ (heap_lt' a1)).trans a1
    exact ⟨cell_of_row _ _ _ _ _ _ b0, cell_of_row _ _ _ _ _ _ b0, cell_of_row _ _ _ _ _ _ b1⟩)
  have HSM : Hid (∀ k, crossR p (R.take k) ≤ 1000000) := Lib.hid (fun k => by
    have h1 := crossR_le p (R.take k)
    have h2 : sumLen (R.take k) + sumLen (R.drop k) = sumLen R := by rw [← sumLen_append, List.take_append_drop]
    omega)
  clear h hs hA a0 a1
  unfold ptV
  go_enter Tryz.func14, Tryz.ntmps14
  go_wp2_with fail
  rw [← hW2]
  clear hW2
  go_loopw [5, 6] (fun v i wr => ∃ k : Nat, k ≤ n ∧ i = .int .i64 k ∧ (∃ c : Nat, v = .int .i64 c ∧ c ≤ 1000000 ∧ Hid (c = crossR p (R.take k))) ∧ Hid (Below W2.heap.size W2 wr)) (fun v i _ => n - (intOf i).toNat)
  case atStart => exact ⟨0, by omega, rfl, ⟨0, rfl, by omega, rfl⟩, Below.refl _ _⟩
  case round =>
    obtain ⟨k, hk, rfl, ⟨c, rfl, hck, hq⟩, hb⟩ := hrel
    obtain ⟨d0, d1, d2⟩ := HC.out wr hb.out
    by_cases hlt : k < n
    · have hi0 : (0 : Int) ≤ (k : Int) := by omega
      have hi5 : (k : Int) < (n : Int) := by omega
      obtain ⟨b, off, x, y, z, rfl, e0, hp⟩ := (HI.out.later hb.out (Nat.le_refl _)).2.2.2.2 k hlt
      have HP := Lib.hid hp
      obtain ⟨s, hs⟩ : ∃ s, s = countK p (R.getD k []) := ⟨_, rfl⟩
      have HCN : Hid (∀ wX, Below wr.heap.size wr wX → Calls Tryz.prog 31 #[.agg #[.int .i64 p.x, .int .i64 p.y], .slice x y z] wX fun e w' => e = .returned (.int .i64 (s : Int)) ∧ Grew wX w') := Lib.hid (fun wX hX => by
        have h := rCrossings_any p x y z (R.getD k []) wX (HP.out.later hX (Nat.le_refl _))
        rw [← hs] at h
        exact h)
      have HS : Hid (c + s = crossR p (R.take (k + 1))) := Lib.hid (by rw [crossR_take (by rw [HL.out]; exact hlt), ← hs, hq.out])
      have hcs : c + s ≤ 1000000 := by rw [HS.out]; exact HSM.out _
      have HW0 : Hid (IntKind.i64.wrap ((c : Int) + (s : Int)) = (c : Int) + (s : Int)) := Lib.hid (IntWalk.i64_in _ (by omega))
      have hwk : IntKind.i64.wrap ((k : Int) + 1) = (k : Int) + 1 := IntWalk.i64_in _ (by omega)
      have HCE : Hid (∀ wX, Below wr.heap.size wr wX → wX.cell? ⟨w.heap.size, 0, none⟩ = some (.int .i64 p.x) ∧ wX.cell? ⟨w.heap.size, 1, none⟩ = some (.int .i64 p.y) ∧ wX.cell? ⟨w.heap.size + 1, 0, none⟩ = some (.slice (some ⟨b, off, none⟩) n cap) ∧ wX.cell? ⟨b, off + k, none⟩ = some (.slice x y z)) := Lib.hid (fun wX hX => by
        obtain ⟨q0, q1, q2⟩ := HC.out wX (hb.out.trans (hX.mono hb.out.size))
        exact ⟨q0, q1, q2, (hX.cell (p := ⟨b, off + k, none⟩) (block_lt_of_cell e0)).trans e0⟩)
      clear hp hs hq
      go_wp2_with fail
      clear d0 d1 d2 e0
      have HOK : ∀ f ∈ ([] : List Fct), FctOk f := by
        intro f hf; cases hf
      refine wp_region_J (s := [(14, 0), (15, 1), (16, 2), (17, 3), (18, 4), (19, 5), (20, 6), (21, 7), (22, 8), (5, 9)]) (by kernel_rfl) (GrowJ wr (fun iX => match iX with | 0 => some (.int .i64 (c : Int)) | 1 => some (.agg #[.int .i64 p.x, .int .i64 p.y]) | 2 => some (.pointer (some ⟨(w.heap.size + 1), 0, none⟩)) | 3 => some (.slice (some ⟨b, off, none⟩) n cap) | 4 => some (.int .i64 (k : Int)) | 5 => some (.pointer (some ⟨b, off + k, none⟩)) | 6 => some (.slice x y z) | 7 => some (.int .i64 (s : Int)) | 8 => some (.int .i64 ((c : Int) + (s : Int))) | 9 => some (.int .i64 ((c : Int) + (s : Int))) | _ => none) []) (by kernel_rfl) (by kernel_rfl) (by kernel_rfl) (by kernel_rfl) (fun _ => undef) ?start5 ?step5 ?done5
      case start5 => exact GrowJ.start ((Below.refl _ _).drew)
      case step5 =>
        refine ⟨?o5_0, ?o5_1, ?o5_2, ?o5_3, ?o5_4, ?o5_5, ?o5_6, ?o5_7, ?o5_8, ?o5_9, trivial⟩
        case o5_0 =>
          intro LX V aX wX K hl hp hcl hf hJ hK
          have t5 := hf.still (t := 5) (v := .int .i64 (c : Int)) 9 (by kernel_rfl) (hcl.no 9 (by kernel_rfl) hl) rfl
          rw [if_pos (by rfl)]
          go_simp
          exact hK _ _ (hJ.val HOK 0 _ (by kernel_rfl) rfl (Below.refl _ _))
        case o5_1 =>
          intro LX V aX wX K hl hp hcl hf hJ hK
          have t2 : aX.tmps[2]? = some (.pointer (some ⟨w.heap.size, 0, none⟩)) := hf.old (by kernel_rfl) rfl
          obtain ⟨c0, c1, c2, c3⟩ := HCE.out wX hJ.below
          rw [if_pos (by rfl)]
          go_simp
          exact hK _ _ (hJ.val HOK 1 _ (by kernel_rfl) rfl (Below.refl _ _))
        case o5_2 =>
          intro LX V aX wX K hl hp hcl hf hJ hK
          have t3 : aX.tmps[3]? = some (.pointer (some ⟨(w.heap.size + 1), 0, none⟩)) := hf.old (by kernel_rfl) rfl
          rw [if_pos (by rfl)]
          go_simp
          exact hK _ _ (hJ.val HOK 2 _ (by kernel_rfl) rfl (Below.refl _ _))
        case o5_3 =>
          intro LX V aX wX K hl hp hcl hf hJ hK
          have t16 := hf.in (i := 2) (d := 16) (by kernel_rfl) (hp 2 (by kernel_rfl)) (hJ.vals 2 _ rfl (hp 2 (by kernel_rfl)))
          obtain ⟨c0, c1, c2, c3⟩ := HCE.out wX hJ.below
          rw [if_pos (by rfl)]
          go_simp
          exact hK _ _ (hJ.val HOK 3 _ (by kernel_rfl) rfl (Below.refl _ _))
        case o5_4 =>
          intro LX V aX wX K hl hp hcl hf hJ hK
          have t6 : aX.tmps[6]? = some (.int .i64 (k : Int)) := hf.old (by kernel_rfl) rfl
          rw [if_pos (by rfl)]
          go_simp
          exact hK _ _ (hJ.val HOK 4 _ (by kernel_rfl) rfl (Below.refl _ _))
        case o5_5 =>
          intro LX V aX wX K hl hp hcl hf hJ hK
          have t17 := hf.in (i := 3) (d := 17) (by kernel_rfl) (hp 3 (by kernel_rfl)) (hJ.vals 3 _ rfl (hp 3 (by kernel_rfl)))
          have t18 := hf.in (i := 4) (d := 18) (by kernel_rfl) (hp 4 (by kernel_rfl)) (hJ.vals 4 _ rfl (hp 4 (by kernel_rfl)))
          rw [if_pos (by rfl)]
          go_simp
          exact hK _ _ (hJ.val HOK 5 _ (by kernel_rfl) rfl (Below.refl _ _))
        case o5_6 =>
          intro LX V aX wX K hl hp hcl hf hJ hK
          have t19 := hf.in (i := 5) (d := 19) (by kernel_rfl) (hp 5 (by kernel_rfl)) (hJ.vals 5 _ rfl (hp 5 (by kernel_rfl)))
          obtain ⟨c0, c1, c2, c3⟩ := HCE.out wX hJ.below
          rw [if_pos (by rfl)]
          go_simp
          exact hK _ _ (hJ.val HOK 6 _ (by kernel_rfl) rfl (Below.refl _ _))
        case o5_7 =>
          intro LX V aX wX K hl hp hcl hf hJ hK
          have t15 := hf.in (i := 1) (d := 15) (by kernel_rfl) (hp 1 (by kernel_rfl)) (hJ.vals 1 _ rfl (hp 1 (by kernel_rfl)))
          have t20 := hf.in (i := 6) (d := 20) (by kernel_rfl) (hp 6 (by kernel_rfl)) (hJ.vals 6 _ rfl (hp 6 (by kernel_rfl)))
          rw [if_pos (by rfl)]
          go_simp
          refine (HCN.out _ hJ.below).mono ?_
          rintro e wA ⟨rfl, hgA⟩
          exact hK _ _ (hJ.val HOK 7 _ (by kernel_rfl) rfl (hgA.1))
        case o5_8 =>
          intro LX V aX wX K hl hp hcl hf hJ hK
          have t14 := hf.in (i := 0) (d := 14) (by kernel_rfl) (hp 0 (by kernel_rfl)) (hJ.vals 0 _ rfl (hp 0 (by kernel_rfl)))
          have t21 := hf.in (i := 7) (d := 21) (by kernel_rfl) (hp 7 (by kernel_rfl)) (hJ.vals 7 _ rfl (hp 7 (by kernel_rfl)))
          have hw := HW0.out
          rw [if_pos (by rfl)]
          go_simp
          exact hK _ _ (hJ.val HOK 8 _ (by kernel_rfl) rfl (Below.refl _ _))
        case o5_9 =>
          intro LX V aX wX K hl hp hcl hf hJ hK
          have t22 := hf.in (i := 8) (d := 22) (by kernel_rfl) (hp 8 (by kernel_rfl)) (hJ.vals 8 _ rfl (hp 8 (by kernel_rfl)))
          rw [if_pos (by rfl)]
          go_simp
          exact hK _ _ (hJ.val HOK 9 _ (by kernel_rfl) rfl (Below.refl _ _))
      intro V wk hJ
      have hv := hJ.vals 9 _ rfl (by kernel_rfl)
      have HBK := Lib.hid hJ.below
      simp only [puts, Act.put, List.setIfInBounds_toArray, List.set_cons_zero, List.set_cons_succ]
      rw [hv]
      clear hJ HOK hv
      go_wp2_with fail
      go_roundw
      case rel => exact ⟨k + 1, by omega, by go_num, ⟨c + s, by go_num, hcs, HS⟩, Lib.hid (hb.out.trans (HBK.out.mono hb.out.size))⟩
      case measure => simp [intOf]; omega
    · have hkn : n = k := by omega
      subst hkn
      have hi5 : ¬ (n : Int) < (n : Int) := by omega
      have hqf := hq.out
      rw [List.take_of_length_le (by rw [HL.out]; exact Nat.le_refl _)] at hqf
      have HQF := Lib.hid hqf
      clear hqf hq
      go_wp2_with fail
      go_ret
      exact ⟨by rw [← HQF.out]; rfl, HA.out.trans (hb.out.mono HA.out.size)⟩
end Go.Proofs.YtdikecfplohpeaaGreat

/- the document's region: In -/
set_option linter.unusedSimpArgs false
set_option linter.unusedVariables false
namespace Go.Proofs.YtdikecfplohpeaaGreat
open Go.RowKit Go.Shelf Go.Geo
attribute [local go_sem] Oper.semAt_some
theorem four_step {W w1 w2 : World} {B1 B2 B3 o1 o2 o3 o4 : Nat} {v1 v2 v3 v4 : Value} (hb : Grew w1 w2)
    (h1 : w1.cell? ⟨B1, o1, none⟩ = some v1) (h2 : w1.cell? ⟨B1, o2, none⟩ = some v2) (h3 : w1.cell? ⟨B2, o3, none⟩ = some v3) (h4 : w1.cell? ⟨B3, o4, none⟩ = some v4) (h7 : Grew W w1) :
    w2.cell? ⟨B1, o1, none⟩ = some v1 ∧ w2.cell? ⟨B1, o2, none⟩ = some v2 ∧ w2.cell? ⟨B2, o3, none⟩ = some v3 ∧ w2.cell? ⟨B3, o4, none⟩ = some v4 ∧ Grew W w2 :=
  ⟨hb.cell h1, hb.cell h2, hb.cell h3, hb.cell h4, h7.trans hb⟩
theorem oddB_succ (c : Nat) (b : Bool) (s : Bool) (h : oddB c = b) : oddB (c + (if s then 1 else 0)) = (b ^^ s) := by rw [oddB_add, oddB_ite, h]
set_option maxRecDepth 100000 in
set_option maxHeartbeats 4000000 in
theorem rIn_region (p : Pt) (ao : Option Addr) (n cap : Nat) (R : List (List Pt)) (w : World) (h : IsRings w ao n cap R) :
    Calls Tryz.prog 12 #[ptV p, .agg #[.slice ao n cap]] w fun e w' => e = .returned (.bool (inR p R)) ∧ Grew w w' := by
  have HI := Lib.hid h
  have HIN := Lib.hid (rIn_ring p)
  have hcm := h.2.2.1
  have hnc := h.2.1
  have hl := h.1
  have HL := Lib.hid hl
  unfold maxLen at hcm
  obtain ⟨W2, hW2⟩ : ∃ W, W = (w.alloc (.cells #[.int .i64 p.x, .int .i64 p.y] 40)).alloc (.cells #[.slice ao n cap] 24) := ⟨_, rfl⟩
  have a0 : W2.heap[w.heap.size]? = some (.cells #[.int .i64 p.x, .int .i64 p.y] 40 (0, 0)) := by rw [hW2]; exact (Below.heap_alloc _ _ _ (by simp)).trans (alloc_new _ _)
  have a1 : W2.heap[w.heap.size + 1]? = some (.cells #[.slice ao n cap] 24 (0, 0)) := by rw [hW2]; exact alloc_new2 _ _ _
  have hA : Grew w W2 := by rw [hW2]; exact ((Grew.refl _).alloc _).alloc _
  have d0 : W2.cell? ⟨w.heap.size, 0, none⟩ = some (.int .i64 p.x) := cell_of_row _ _ _ _ _ _ a0
  have d1 : W2.cell? ⟨w.heap.size, 1, none⟩ = some (.int .i64 p.y) := cell_of_row _ _ _ _ _ _ a0
  have d2 : W2.cell? ⟨w.heap.size + 1, 0, none⟩ = some (.slice ao n cap) := cell_of_row _ _ _ _ _ _ a1
  have HA := Lib.hid (And.intro hA (And.intro d0 (And.intro d1 d2)))
  obtain ⟨rr, hrr⟩ : ∃ r, r = inR p R := ⟨_, rfl⟩
  rw [← hrr]
  have HRR := Lib.hid hrr
  clear hA a0 a1 d0 d1 d2 h hl hrr
  unfold ptV at HIN ⊢
  go_enter Tryz.func12, Tryz.ntmps12
  go_wp2
  try rw [← hW2]
  clear hW2
  go_loopw [5, 6] (fun v i wr => ∃ k : Nat, k ≤ n ∧ i = .int .i64 k ∧ (∃ c : Nat, v = .int .i64 c ∧ c ≤ k ∧ Hid (oddB c = inR p (R.take k))) ∧ Hid (Grew W2 wr)) (fun v i _ => n - (intOf i).toNat)
  case atStart => exact ⟨0, by omega, rfl, ⟨0, rfl, Nat.le_refl _, rfl⟩, Grew.refl _⟩
  case round =>
    obtain ⟨k, hk, rfl, ⟨c, rfl, hck, hq⟩, hb⟩ := hrel
    have c0 := hb.out.cell HA.out.2.1
    have c1 := hb.out.cell HA.out.2.2.1
    have r0 := hb.out.cell HA.out.2.2.2
    by_cases hlt : k < n
    · have hi0 : (0 : Int) ≤ (k : Int) := by omega
      have hi5 : (k : Int) < (n : Int) := by omega
      obtain ⟨b, off, x, y, z, rfl, e0, hp⟩ := (HI.out.later (HA.out.1.trans hb.out).1 (Nat.le_refl _)).2.2.2.2 k hlt
      have HP := Lib.hid hp
      have HC := Lib.hid (HIN.out x y z (R.getD k []))
      obtain ⟨s, hs⟩ : ∃ s, s = inP p (R.getD k []) := ⟨_, rfl⟩
      rw [← hs] at HC
      have HS : Hid (oddB (c + (if s then 1 else 0)) = inR p (R.take (k + 1))) := Lib.hid (by rw [inR_take (by rw [HL.out]; exact hlt), ← hs]; exact oddB_succ _ _ _ hq.out)
      have hwc : IntKind.i64.wrap ((c : Int) + 1) = (c : Int) + 1 := IntWalk.i64_in _ (by omega)
      clear hp hs hq
      go_wp2_with fail
      go_region_held3 (fun w' => w'.cell? ⟨w.heap.size, 0, none⟩ = some (.int .i64 p.x) ∧ w'.cell? ⟨w.heap.size, 1, none⟩ = some (.int .i64 p.y) ∧ w'.cell? ⟨w.heap.size + 1, 0, none⟩ = some (.slice (some ⟨b, off, none⟩) n cap) ∧ w'.cell? ⟨b, off + k, none⟩ = some (.slice x y z) ∧ Grew wr w')
        (first
          | (exact ⟨c0, c1, r0, e0, (Grew.refl _).drew⟩)
          | (go_split_ands; refine four_step hgr ?_ ?_ ?_ ?_ ?_; all_goals assumption))
        (first
          | (go_at_call 26; refine (HC.out wr.drew (IsPts.ofDrew HP.out)).mono ?_; rintro e wA ⟨rfl, hgr⟩)
          | fail)
      have HB : Hid (Grew wr wA) := Lib.hid (by first | assumption | (go_split_ands; assumption))
      clear c0 c1 r0 e0
      cases s
      all_goals (
        go_wp2_with fail
        go_roundw
        case rel => exact ⟨k + 1, by omega, by go_num, ⟨_, by go_num, by first | exact Nat.le_succ_of_le hck | exact Nat.succ_le_succ hck, HS⟩, Lib.hid (hb.out.trans HB.out)⟩
        case measure => simp [intOf]; omega)
    · obtain rfl : k = n := by omega
      have hi5 : ¬ ((k : Int) < (k : Int)) := by omega
      have ho := hq.out
      rw [List.take_of_length_le (by rw [HL.out]; exact Nat.le_refl _)] at ho
      obtain ⟨z, hz⟩ : ∃ z : Int, z = (c : Int) % 2 := ⟨_, rfl⟩
      have hrem : Int.tmod (c : Int) 2 = z := by rw [Int.tmod_eq_emod_of_nonneg (by omega), hz]
      have hrem2 : (c : Int) % 2 = z := hz.symm
      have hd : rr = decide (z = 1) := by
        rw [HRR.out, ← ho]; unfold oddB
        by_cases h : c % 2 = 1
        · rw [decide_eq_true h, decide_eq_true (by omega)]
        · rw [decide_eq_false h, decide_eq_false (by omega)]
      have HD := Lib.hid hd
      have hc0 : (0 : Int) ≤ (c : Int) := by omega
      clear hz hd ho hq
      go_wp2_with fail
      go_ret
      exact ⟨by rw [HD.out]; rfl, HA.out.1.trans hb.out⟩
end Go.Proofs.YtdikecfplohpeaaGreat
