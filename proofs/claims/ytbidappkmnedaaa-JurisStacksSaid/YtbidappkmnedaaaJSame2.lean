/- apportionkit.SamePoints, SameRings, SameOne, SameJuris of the same -/
import Derived.Test.YtbidappkmnedaaaJIn
import Derived.Laws.StructEq
import Derived.Deep.QuietTactic
namespace Go.Proofs.Ytbidappkmnedaaa
open Go.RowKit
theorem IsPts.later {w w' : World} {B : Nat} {ao : Option Addr} {n cap : Nat} {P : List (Int × Int)} (h : IsPts w ao n cap P) (hb : Below B w w') (hB : w.heap.size ≤ B) : IsPts w' ao n cap P := by
  obtain ⟨h1, h2, h3, h4, h5⟩ := h
  refine ⟨h1, h2, h3, fun hn => ?_, h5⟩
  obtain ⟨b, off, rfl, hc⟩ := h4 hn
  refine ⟨b, off, rfl, fun i hi => ?_⟩
  obtain ⟨e0, e1⟩ := hc i hi
  exact ⟨(hb.cell (p := ⟨b, off + i * 2, none⟩) (Nat.lt_of_lt_of_le (block_lt_of_cell e0) hB)).trans e0, (hb.cell (p := ⟨b, off + i * 2 + 1, none⟩) (Nat.lt_of_lt_of_le (block_lt_of_cell e1) hB)).trans e1⟩
theorem IsRings.later {w w' : World} {B : Nat} {ao : Option Addr} {n cap : Nat} {R : List (List (Int × Int))} (h : IsRings w ao n cap R) (hb : Below B w w') (hB : w.heap.size ≤ B) : IsRings w' ao n cap R := by
  obtain ⟨h1, h2, h3, h4, h5⟩ := h
  refine ⟨h1, h2, h3, h4, fun k hk => ?_⟩
  obtain ⟨b, off, x, y, z, rfl, hc, hp⟩ := h5 k hk
  exact ⟨b, off, x, y, z, rfl, (hb.cell (p := ⟨b, off + k, none⟩) (Nat.lt_of_lt_of_le (block_lt_of_cell hc) hB)).trans hc, hp.later hb hB⟩
theorem JursD.later {w w' : World} {B : Nat} {L : List Jur} {RR : List (List (List (Int × Int)))} (h : JursD w L RR) (hb : Below B w w') (hB : w.heap.size ≤ B) : JursD w' L RR := fun i hi => (h i hi).later hb hB
theorem IsRings.nil (w : World) : IsRings w none 0 0 [] := ⟨rfl, Nat.le_refl _, by unfold maxLen; omega, fun _ => ⟨rfl, rfl⟩, fun k hk => absurd hk (by omega)⟩
theorem drewN2 (w : World) (a b : Nat) : (w.drewN a).drewN b = w.drewN (a + b) := by unfold World.drewN; simp [Nat.add_assoc]
theorem fieldsP : Try.prog.underlying 70 = some (.struct (Try.prog.fieldsOf 70)) := by kernel_rfl
theorem heldP : Try.prog.stoodInHeld 70 = false := by kernel_rfl
theorem fieldsPI : (Try.prog.fieldsOf 70).toList.map (fun f => (decide (f.name ≠ "_"), f.type, f.offset)) = [(true, 3, 0), (true, 3, 1)] := by kernel_rfl
theorem isAggI (w : World) : (isAgg 3).run Try.prog w = .ok false w := by
  simp [isAgg, run_underlying Try.underlying3]
theorem part_int (xs : Array Value) (o : Nat) (v : Value) (h : xs[o]? = some v) (w : World) : (part 3 xs o).run Try.prog w = .ok v w := by
  simp [part, h]
theorem eqFields_cons (d : Nat) (xs ys : Array Value) (f : Field) (fs : List Field) (o : Nat) (a b : Int) (w : World) (hn : decide (f.name ≠ "_") = true) (ht : f.type = 3) (ho : f.offset = o)
    (hx : xs[o]? = some (.int .i64 a)) (hy : ys[o]? = some (.int .i64 b)) :
    (Op.eqFields (d + 1) xs ys (f :: fs)).run Try.prog w = if (a == b) = true then (Op.eqFields (d + 1) xs ys fs).run Try.prog w else .ok false w := by
  have hn' : f.name ≠ "_" := of_decide_eq_true hn
  rw [Op.eqFields, if_pos hn', ht, ho]
  simp only [Sem.run_bind, part_int xs o _ hx, part_int ys o _ hy, Result.andThen_ok, run_equalIn_int w d 3 .i64 .i64 a b Try.underlying3]
  cases (a == b) <;> simp
theorem run_neq_pt (a b : Int) (w : World) : (binOp .neq 70 (.agg #[.int .i64 a, .int .i64 b]) (.agg #[.int .i64 a, .int .i64 b])).run Try.prog w = .ok (.bool false) w := by
  have hf := fieldsPI
  rw [run_neq_struct, run_equalIn_agg _ _ _ _ _ fieldsP heldP]
  generalize (Try.prog.fieldsOf 70).toList = fs at hf
  obtain _ | ⟨f0, _ | ⟨f1, _ | ⟨f2, fs⟩⟩⟩ := fs <;> simp only [List.map_cons, List.map_nil, List.cons.injEq, Prod.mk.injEq, and_false, and_true, List.cons_ne_nil, List.nil_eq] at hf
  obtain ⟨⟨n0, t0, o0⟩, ⟨n1, t1, o1⟩⟩ := hf
  rw [eqFields_cons 9998 _ _ f0 _ 0 _ _ w n0 t0 o0 rfl rfl, eqFields_cons 9998 _ _ f1 _ 1 _ _ w n1 t1 o1 rfl rfl]
  unfold Op.eqFields
  simp
set_option maxRecDepth 100000 in
set_option maxHeartbeats 1000000 in
theorem SamePoints_any (ao : Option Addr) (n cap : Nat) (bo : Option Addr) (cap2 : Nat) (P : List (Int × Int)) (w : World) (h : IsPts w ao n cap P) (h2 : IsPts w bo n cap2 P) :
    Calls Try.prog 46 #[.slice ao n cap, .slice bo n cap2] w fun e w' => e = .returned (.bool true) ∧ ∃ q, w' = w.drewN q := by
  have HI := Lib.hid h
  have HJ := Lib.hid h2
  have hcm := h.2.2.1
  have hnc := h.2.1
  clear h h2
  unfold maxLen at hcm
  have hnn : ((n : Int) == (n : Int)) = true := by simp
  go_enter Try.func46, Try.ntmps46
  go_wp2
  go_loopw [5] (fun i wr => ∃ k : Nat, k ≤ n ∧ i = .int .i64 k ∧ Hid (∃ q, wr = w.drewN q)) (fun i _ => n - (intOf i).toNat)
  case atStart => exact ⟨0, by omega, rfl, 0, rfl⟩
  case round =>
    obtain ⟨k, hk, rfl, hq⟩ := hrel
    by_cases hlt : k < n
    · have hi0 : (0 : Int) ≤ (k : Int) := by omega
      have hi5 : (k : Int) < (n : Int) := by omega
      have hb : Below w.heap.size w wr := by obtain ⟨q, rfl⟩ := hq.out; exact below_drewN (Below.refl _ _) q
      obtain ⟨b, off, rfl, hat⟩ := (HI.out.later hb (Nat.le_refl _)).2.2.2.1 (by omega)
      obtain ⟨b2, off2, rfl, hat2⟩ := (HJ.out.later hb (Nat.le_refl _)).2.2.2.1 (by omega)
      obtain ⟨x, hx⟩ : ∃ x, x = (P.getD k (0, 0)).1 := ⟨_, rfl⟩
      obtain ⟨y, hy⟩ : ∃ y, y = (P.getD k (0, 0)).2 := ⟨_, rfl⟩
      obtain ⟨e0, e1⟩ := hat k hlt
      obtain ⟨d0, d1⟩ := hat2 k hlt
      rw [← hx] at e0 d0
      rw [← hy] at e1 d1
      have hql : ∀ w', (binOp .neq 70 (.agg #[.int .i64 x, .int .i64 y]) (.agg #[.int .i64 x, .int .i64 y])).run Try.prog w' = .ok (.bool false) w' := run_neq_pt x y
      clear hat hat2 hx hy hb
      go_wp2_with fail
      go_quiet (fail)
      go_wp2_with fail
      go_roundw
      case rel =>
        refine ⟨k + 1, by omega, by go_num, ?_⟩
        obtain ⟨q, rfl⟩ := hq.out
        exact ⟨_, drewN2 _ _ _⟩
      case measure => simp [intOf]; omega
    · obtain rfl : k = n := by omega
      go_wp2
      go_ret
      exact ⟨rfl, hq.out⟩
set_option maxRecDepth 100000 in
set_option maxHeartbeats 1000000 in
theorem SameRings_any (ao : Option Addr) (n cap : Nat) (bo : Option Addr) (cap2 : Nat) (R : List (List (Int × Int))) (w : World) (h : IsRings w ao n cap R) (h2 : IsRings w bo n cap2 R) :
    Calls Try.prog 34 #[.slice ao n cap, .slice bo n cap2] w fun e w' => e = .returned (.bool true) ∧ ∃ q, w' = w.drewN q := by
  have HI := Lib.hid h
  have HJ := Lib.hid h2
  have hcm := h.2.2.1
  have hnc := h.2.1
  clear h h2
  unfold maxLen at hcm
  have hnn : ((n : Int) == (n : Int)) = true := by simp
  go_enter Try.func34, Try.ntmps34
  go_wp2
  go_loopw [5] (fun i wr => ∃ k : Nat, k ≤ n ∧ i = .int .i64 k ∧ Hid (∃ q, wr = w.drewN q)) (fun i _ => n - (intOf i).toNat)
  case atStart => exact ⟨0, by omega, rfl, 0, rfl⟩
  case round =>
    obtain ⟨k, hk, rfl, hq⟩ := hrel
    by_cases hlt : k < n
    · have hi0 : (0 : Int) ≤ (k : Int) := by omega
      have hi5 : (k : Int) < (n : Int) := by omega
      have hb : Below w.heap.size w wr := by obtain ⟨q, rfl⟩ := hq.out; exact below_drewN (Below.refl _ _) q
      obtain ⟨b, off, x, y, z, rfl, e0, hp⟩ := (HI.out.later hb (Nat.le_refl _)).2.2.2.2 k hlt
      obtain ⟨b2, off2, x2, y2, z2, rfl, d0, hp2⟩ := (HJ.out.later hb (Nat.le_refl _)).2.2.2.2 k hlt
      obtain rfl : y2 = y := hp2.1.symm.trans hp.1
      have hcall : ∀ q', Calls Try.prog 46 #[.slice x y2 z, .slice x2 y2 z2] (wr.drewN q') fun e w' => e = .returned (.bool true) ∧ ∃ m, w' = wr.drewN m := fun q' =>
        (SamePoints_any _ _ _ _ _ _ _ (hp.later (below_drewN (Below.refl _ _) q') (Nat.le_refl _)) (hp2.later (below_drewN (Below.refl _ _) q') (Nat.le_refl _))).mono fun e w' h => ⟨h.1, by obtain ⟨m, hm⟩ := h.2; exact ⟨q' + m, by rw [hm]; exact drewN2 _ _ _⟩⟩
      have HC := Lib.hid hcall
      clear hp hp2 hb hcall
      go_wp2_with fail
      go_quiet ((go_at_call 46; exact HC.out _))
      go_wp2_with fail
      go_roundw
      case rel =>
        refine ⟨k + 1, by omega, by go_num, ?_⟩
        obtain ⟨q, rfl⟩ := hq.out
        exact ⟨_, drewN2 _ _ _⟩
      case measure => simp [intOf]; omega
    · obtain rfl : k = n := by omega
      go_wp2
      go_ret
      exact ⟨rfl, hq.out⟩
/-- two jurisdictions alike but for where their regions lie. -/
def Alike (c d : Jur) : Prop := c.id = d.id ∧ c.ki = d.ki ∧ c.pa = d.pa ∧ c.fi = d.fi
set_option maxRecDepth 100000 in
set_option maxHeartbeats 1000000 in
theorem SameOne_any (c d : Jur) (R : List (List (Int × Int))) (w : World) (ha : Alike c d) (h : IsRings w c.ra c.rn c.rc R) (h2 : IsRings w d.ra d.rn d.rc R) :
    Calls Try.prog 15 #[c.val, d.val] w fun e w' => e = .returned (.bool true) ∧ Grew w w' := by
  obtain ⟨c1, c2, c3, c4, c5, c6, c7⟩ := c
  obtain ⟨d1, d2, d3, d4, d5, d6, d7⟩ := d
  obtain ⟨e1, e2, e3, e4⟩ := ha
  dsimp only at e1 e2 e3 e4 h h2
  subst e1 e2 e3 e4
  obtain rfl : d6 = c6 := h2.1.symm.trans h.1
  unfold Jur.val Jur.row
  dsimp only
  obtain ⟨W, hW⟩ : ∃ W, W = (w.alloc (Obj.cells #[.int .i64 c1, .int .i64 c2, .int .i64 c3, .int .i64 c4, .slice c5 d6 c7] 33)).alloc (Obj.cells #[.int .i64 c1, .int .i64 c2, .int .i64 c3, .int .i64 c4, .slice d5 d6 d7] 33) := ⟨_, rfl⟩
  have hg : Grew w W := by rw [hW]; exact ((Grew.refl _).alloc _).alloc _
  have HC := Lib.hid (SameRings_any _ _ _ _ _ _ W (h.later hg.1 (Nat.le_refl _)) (h2.later hg.1 (Nat.le_refl _)))
  have HG := Lib.hid hg
  have HW := Lib.hid hW
  clear h h2 hg hW
  go_enter Try.func15, Try.ntmps15
  go_wp2_with fail
  rw [← HW.out]
  refine HC.out.mono ?_
  rintro e w2 ⟨rfl, q, rfl⟩
  go_wp2_with fail
  go_ret
  exact ⟨rfl, HG.out.drewN _⟩
set_option maxRecDepth 100000 in
set_option maxHeartbeats 1000000 in
theorem SameJuris_any (ao : Option Addr) (n cap : Nat) (bo : Option Addr) (cap2 : Nat) (L M : List Jur) (RR : List (List (List (Int × Int)))) (w : World) (h : IsJurs w ao n cap L) (h2 : IsJurs w bo n cap2 M) (hd : JursD w L RR) (hd2 : JursD w M RR) (hal : ∀ i, i < n → Alike (L.getD i j0) (M.getD i j0)) :
    Calls Try.prog 16 #[.slice ao n cap, .slice bo n cap2] w fun e w' => e = .returned (.bool true) ∧ Grew w w' := by
  have HI := Lib.hid h
  have HJ := Lib.hid h2
  have HD := Lib.hid hd
  have HE := Lib.hid hd2
  have HAL := Lib.hid hal
  have hcm := h.2.2.1
  have hnc := h.2.1
  clear h h2 hd hd2 hal
  unfold maxLen at hcm
  have hnn : ((n : Int) == (n : Int)) = true := by simp
  go_enter Try.func16, Try.ntmps16
  go_wp2
  go_loopw [5] (fun i wr => ∃ k : Nat, k ≤ n ∧ i = .int .i64 k ∧ Hid (Grew w wr)) (fun i _ => n - (intOf i).toNat)
  case atStart => exact ⟨0, by omega, rfl, Grew.refl _⟩
  case round =>
    obtain ⟨k, hk, rfl, hg⟩ := hrel
    by_cases hlt : k < n
    · have hi0 : (0 : Int) ≤ (k : Int) := by omega
      have hi5 : (k : Int) < (n : Int) := by omega
      obtain ⟨b, off, rfl, hcs⟩ := (HI.out.grew hg.out).2.2.2.1 (by omega)
      obtain ⟨b2, off2, rfl, hcs2⟩ := (HJ.out.grew hg.out).2.2.2.1 (by omega)
      have hal := HAL.out k hlt
      have hr1 := (HD.out.later hg.out.1 (Nat.le_refl _)) k (by rw [HI.out.1]; exact hlt)
      have hr2 := (HE.out.later hg.out.1 (Nat.le_refl _)) k (by rw [HJ.out.1]; exact hlt)
      obtain ⟨c, hc⟩ : ∃ c, c = L.getD k j0 := ⟨_, rfl⟩
      obtain ⟨d, hd⟩ : ∃ d, d = M.getD k j0 := ⟨_, rfl⟩
      have hk0 := hcs k hlt
      have hk1 := hcs2 k hlt
      rw [← hc] at hk0 hal hr1
      rw [← hd] at hk1 hal hr2
      have hcall : ∀ q', Calls Try.prog 15 #[c.val, d.val] (wr.drewN q') fun e w' => e = .returned (.bool true) ∧ Grew wr w' := fun q' =>
        (SameOne_any c d _ _ hal (hr1.later (below_drewN (Below.refl _ _) q') (Nat.le_refl _)) (hr2.later (below_drewN (Below.refl _ _) q') (Nat.le_refl _))).mono fun e w' h => ⟨h.1, ((Grew.refl _).drewN q').trans h.2⟩
      obtain ⟨c1, c2, c3, c4, c5, c6, c7⟩ := c
      obtain ⟨x1, x2, x3, x4, x5, x6, x7⟩ := d
      have e0 : wr.cell? ⟨b, off + k * 5, none⟩ = some (.int .i64 c1) := hk0 0 (by omega)
      have e1 : wr.cell? ⟨b, off + k * 5 + 1, none⟩ = some (.int .i64 c2) := hk0 1 (by omega)
      have e2 : wr.cell? ⟨b, off + k * 5 + 2, none⟩ = some (.int .i64 c3) := hk0 2 (by omega)
      have e3 : wr.cell? ⟨b, off + k * 5 + 3, none⟩ = some (.int .i64 c4) := hk0 3 (by omega)
      have e4 : wr.cell? ⟨b, off + k * 5 + 4, none⟩ = some (.slice c5 c6 c7) := hk0 4 (by omega)
      have d0 : wr.cell? ⟨b2, off2 + k * 5, none⟩ = some (.int .i64 x1) := hk1 0 (by omega)
      have d1 : wr.cell? ⟨b2, off2 + k * 5 + 1, none⟩ = some (.int .i64 x2) := hk1 1 (by omega)
      have d2 : wr.cell? ⟨b2, off2 + k * 5 + 2, none⟩ = some (.int .i64 x3) := hk1 2 (by omega)
      have d3 : wr.cell? ⟨b2, off2 + k * 5 + 3, none⟩ = some (.int .i64 x4) := hk1 3 (by omega)
      have d4 : wr.cell? ⟨b2, off2 + k * 5 + 4, none⟩ = some (.slice x5 x6 x7) := hk1 4 (by omega)
      unfold Jur.val Jur.row at hcall
      dsimp only at hcall
      have HC := Lib.hid hcall
      clear hcs hcs2 hal hr1 hr2 hc hd hk0 hk1 hcall
      go_wp2_with fail
      go_region_with (go_at_call 15; refine (HC.out _).mono ?_; rintro e w2 ⟨rfl, hg2⟩)
      all_goals (
        go_wp2_with fail
        go_roundw
        case rel => first | exact ⟨k + 1, by omega, by go_num, hg.out.trans hg2⟩ | exact ⟨k + 1, by omega, by go_num, (hg.out.trans hg2).drew⟩ | exact ⟨k + 1, by omega, by go_num, (hg.out.trans hg2).drewN _⟩
        case measure => simp [intOf]; omega)
    · obtain rfl : k = n := by omega
      go_wp2
      go_ret
      exact ⟨rfl, hg.out⟩
end Go.Proofs.Ytbidappkmnedaaa
