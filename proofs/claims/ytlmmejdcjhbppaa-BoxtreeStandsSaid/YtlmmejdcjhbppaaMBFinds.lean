/- BoxtreeFinds (printed by mkbfinds12.py) -/
import Derived.Test.YtlmmejdcjhbppaaMBRAsk
import Derived.Test.YtlmmejdcjhbppaaMQEqB
set_option linter.unusedSimpArgs false
set_option linter.unusedVariables false
namespace Go.Proofs.Ytlmmejdcjhbppaa
open Go.RowKit Go.Geo
attribute [local go_sem] Oper.semAt_some
theorem eqBoxS (b : Bx) (w : World) : (Op.equalIn 10000 33 (.agg #[.int .i64 b.1.x, .int .i64 b.1.y, .int .i64 b.2.x, .int .i64 b.2.y]) (.agg #[.int .i64 b.1.x, .int .i64 b.1.y, .int .i64 b.2.x, .int .i64 b.2.y])).run Try.prog w = .ok true w := by
  have hf := fieldsBI
  rw [run_equalIn_agg _ _ _ _ _ fieldsB heldB]
  generalize (Try.prog.fieldsOf 33).toList = fs at hf
  obtain _ | ⟨f0, _ | ⟨f1, _ | ⟨f2, fs⟩⟩⟩ := fs <;> simp only [List.map_cons, List.map_nil, List.cons.injEq, Prod.mk.injEq, and_false, and_true, List.cons_ne_nil, List.nil_eq] at hf
  obtain ⟨⟨n0, t0, o0⟩, ⟨n1, t1, o1⟩⟩ := hf
  rw [eqFields_consP 9995 _ _ f0 _ 0 b.1.x b.1.y b.1.x b.1.y w n0 t0 o0 rfl rfl, eqFields_consP 9995 _ _ f1 _ 2 b.2.x b.2.y b.2.x b.2.y w n1 t1 o1 rfl rfl]
  unfold Op.eqFields
  simp
def farB : Bx := (⟨0, 0⟩, ⟨1099511627776, 1099511627776⟩)
theorem TreeOn.low {w : World} {B g gi o : Nat} {L : List Bx} {u : Value} (h : TreeOn w B g L) (hg : gi < B) : TreeOn (w.setCell ⟨gi, o, none⟩ u) B g L :=
  h.move fun k hk _ => Below.heap_setCell _ _ _ _ (by show k ≠ gi; omega)
theorem OwnX.froz {w : World} {B gi n c : Nat} {X : List Bx} (h : OwnX w B (.slice (some ⟨gi, 0, none⟩) n c) X) (o : Nat) : w.frozen? ⟨gi, o, none⟩ = false := by
  rcases h.2 with ⟨h1, _⟩ | ⟨g, cap, cur, e, _, hg, _⟩
  · simp at h1
  · cases e; exact frozen_of_row _ _ _ _ _ hg
theorem OwnX.zero {w : World} {B n c : Nat} {ai : Option Addr} {X : List Bx} (h : OwnX w B (.slice ai n c) X) (hn : 0 < X.length) : ∃ gi, ai = some ⟨gi, 0, none⟩ ∧ B ≤ gi ∧ gi < w.heap.size := by
  rcases h.2 with ⟨h1, h2⟩ | ⟨g, cap, cur, e, hb, hg, _⟩
  · omega
  · cases e; exact ⟨g, rfl, hb, heap_lt2 hg⟩
theorem OwnI.froz {w : World} {B gi n c : Nat} {X : List Int} (h : OwnI w B (.slice (some ⟨gi, 0, none⟩) n c) X) (o : Nat) : w.frozen? ⟨gi, o, none⟩ = false := by
  rcases h.2 with ⟨h1, _⟩ | ⟨g, cap, cur, e, _, hg, _⟩
  · simp at h1
  · cases e; exact frozen_of_row _ _ _ _ _ hg
theorem OwnI.zero {w : World} {B n c : Nat} {ai : Option Addr} {X : List Int} (h : OwnI w B (.slice ai n c) X) (hn : 0 < X.length) : ∃ gi, ai = some ⟨gi, 0, none⟩ ∧ B ≤ gi ∧ gi < w.heap.size := by
  rcases h.2 with ⟨h1, h2⟩ | ⟨g, cap, cur, e, hb, hg, _⟩
  · omega
  · cases e; exact ⟨g, rfl, hb, heap_lt2 hg⟩
theorem OwnI.put {w : World} {base g cap : Nat} {X : List Int} (h : OwnI w base (.slice (some ⟨g, 0, none⟩) X.length cap) X) (i : Nat) (e : Int) :
    OwnI (w.setCell ⟨g, i, none⟩ (.int .i64 e)) base (.slice (some ⟨g, 0, none⟩) X.length cap) (X.set i e) := by
  unfold OwnI at *
  have hf : flatI (X.set i e) = (flatI X).set i (.int .i64 e) := by simp [flatI, List.map_set]
  rw [List.length_set, hf]
  exact (World.ownsRow.stored h i (.int .i64 e)).1
set_option maxRecDepth 100000 in
set_option maxHeartbeats 16000000 in
theorem BoxtreeFinds_any (ao : Option Addr) (n cap : Nat) (L : List Bx) (po : Option Addr) (np pc : Nat) (P : List Pt) (xo : Option Addr) (nx xc : Nat) (X : List Bx) (w : World) (h : IsXB w ao n cap L) (hp : IsPts w po np pc P) (hx : IsXB w xo nx xc X) : Calls Try.prog 3 #[.slice ao n cap, .slice po np pc, .slice xo nx xc] w fun e w' => e = .returned (.bool true) ∧ Below w.heap.size w w' := by
  obtain ⟨hix, hin⟩ := h
  have hn := hix.1
  have hnc := hix.2.1
  have hcm : cap ≤ 9223372036854775807 := hix.2.2.1
  have hpc := hp.2.1
  have hpcm : pc ≤ 9223372036854775807 := hp.2.2.1
  have hxc := hx.1.2.1
  have hxcm : xc ≤ 9223372036854775807 := hx.1.2.2.1
  have HI := Lib.hid hix
  have HP := Lib.hid hp
  have HX := Lib.hid hx
  have HN := Lib.hid hn
  have HIN0 := Lib.hid hin
  clear hix hn hin hp hx
  by_cases h120 : 120 < n
  · have h5 : (120 : Int) < (n : Int) := by omega
    go_enter Try.func3, Try.ntmps3
    go_wp2_with fail
    exact (awake_any w).mono (by rintro e w1 ⟨rfl, hb1⟩; have HB1 := Lib.hid hb1; clear hb1; go_wp2_with fail; go_ret; exact ⟨rfl, HB1.out⟩)
  by_cases h20 : 20 < np
  · have h5 : ¬ (120 : Int) < (n : Int) := by omega
    have h6 : (20 : Int) < (np : Int) := by omega
    go_enter Try.func3, Try.ntmps3
    go_wp2_with fail
    exact (awake_any w).mono (by rintro e w1 ⟨rfl, hb1⟩; have HB1 := Lib.hid hb1; clear hb1; go_wp2_with fail; go_ret; exact ⟨rfl, HB1.out⟩)
  by_cases h21 : 20 < nx
  · have h5 : ¬ (120 : Int) < (n : Int) := by omega
    have h6 : ¬ (20 : Int) < (np : Int) := by omega
    have h7 : (20 : Int) < (nx : Int) := by omega
    go_enter Try.func3, Try.ntmps3
    go_wp2_with fail
    exact (awake_any w).mono (by rintro e w1 ⟨rfl, hb1⟩; have HB1 := Lib.hid hb1; clear hb1; go_wp2_with fail; go_ret; exact ⟨rfl, HB1.out⟩)
  have h5 : ¬ (120 : Int) < (n : Int) := by omega
  have h6 : ¬ (20 : Int) < (np : Int) := by omega
  have h7 : ¬ (20 : Int) < (nx : Int) := by omega
  have HI2 := Lib.hid (HI.out.later ((Below.refl w.heap.size w).alloc (Nat.le_refl _) (Obj.cells #[] 33)) (Nat.le_refl _))
  have HNL := Lib.hid (show ([] : List Bx).length + n ≤ 1000000000 by simp; omega)
  go_enter Try.func3, Try.ntmps3
  go_wp2_with (at_builtin; refine wpList_append_X rfl _ _ rfl w.heap.size (.slice (some ⟨w.heap.size, 0, none⟩) 0 0) [] rfl (OwnX.none_new w _ (Nat.le_refl _)) ao n cap L rfl HI2.out HNL.out (by simp) ?_
               intro v3 w3 hown3 hgr3 hfr3
               rw [List.nil_append] at hown3
               have hbl3 := below_grownX ((Below.refl _ _).alloc (Nat.le_refl _) _) (OwnX.none_new w _ (Nat.le_refl _)) hgr3 (by simp)
               obtain ⟨ai, ci, hv3, hix3⟩ := hown3.is
               have HLN := HN.out
               rw [HN.out] at hv3 hix3
               subst hv3
               have HB3 := Lib.hid hbl3
               have HOW3 := Lib.hid hown3
               have HIX3 := Lib.hid hix3
               have hcc3 := hix3.2.1
               have hcm3 : ci ≤ 9223372036854775807 := hix3.2.2.1
               clear hown3 hgr3 hfr3 hbl3 hix3 HLN)
  have HU := Lib.hid (BuildT_any ai n ci L w3 HIX3.out HIN0.out)
  refine HU.out.mono ?_
  rintro e w4 ⟨_, hok, hb4⟩
  obtain ⟨g, rfl, hto, ht4⟩ := hok (by rw [HN.out]; omega)
  have HB4 := Lib.hid (HB3.out.trans (hb4.mono HB3.out.size))
  have HTO := Lib.hid hto
  have HFEW := Lib.hid ht4.few
  have hle := LenT_any g L w4 ht4
  rw [HN.out] at hle
  have HLE := Lib.hid hle
  have HOW4 := Lib.hid (HOW3.out.later hb4)
  obtain ⟨B, hB⟩ : ∃ B, B = w3.heap.size := ⟨_, rfl⟩
  rw [← hB] at HTO
  have HGI : Hid (0 < n → ∃ gi, ai = some ⟨gi, 0, none⟩ ∧ w.heap.size ≤ gi ∧ gi < B) := Lib.hid (fun h0 => by rw [hB]; exact HOW3.out.zero (by rw [HN.out]; exact h0))
  clear hok hb4 hto ht4 hle hB
  go_wp2_with fail
  refine HLE.out.mono ?_
  rintro e wq ⟨rfl, rfl⟩
  go_wp2_with fail
  go_loopw [10] (fun iv wr => ∃ i : Nat, i ≤ n ∧ iv = .int .i64 i ∧ Hid (∃ M, M.length = n ∧ (∀ j, i ≤ j → M.getD j bx0 = L.getD j bx0) ∧ OwnX wr w.heap.size (.slice ai n ci) M ∧ TreeOn wr B g L ∧ Below w.heap.size w wr)) (fun iv _ => n - (intOf iv).toNat)
  case atStart => exact ⟨0, by omega, rfl, Lib.hid ⟨L, HN.out, fun _ _ => rfl, HOW4.out, HTO.out, HB4.out⟩⟩
  case round =>
    obtain ⟨i, hi, rfl, hst⟩ := hrel
    obtain ⟨M, hM, hML, hMO, hMT, hMB⟩ := hst.out
    clear hst
    by_cases hlt : i < n
    · have hi5 : (i : Int) < (n : Int) := by omega
      have hwi : IntKind.i64.wrap ((i : Int) + 1) = (i : Int) + 1 := IntWalk.i64_in _ (by omega)
      obtain ⟨gi, hgi, hgi0, hgiB⟩ := HGI.out (by omega)
      subst hgi
      obtain ⟨bb, off, hao, hat⟩ := (HI.out).2.2.2.2 (by omega)
      subst hao
      obtain ⟨b, hb⟩ : ∃ b, b = L.getD i bx0 := ⟨_, rfl⟩
      have HMO := Lib.hid hMO
      have HST := Lib.hid (And.intro hM (And.intro hML (And.intro hMT (And.intro hMB (And.intro hgi0 (And.intro hgiB hb))))))
      have hcl : ∀ wX, Below wr.heap.size wr wX → wX.cell? ⟨gi, i * 4, none⟩ = some (.int .i64 b.1.x) ∧ wX.cell? ⟨gi, i * 4 + 1, none⟩ = some (.int .i64 b.1.y) ∧ wX.cell? ⟨gi, i * 4 + 2, none⟩ = some (.int .i64 b.2.x) ∧ wX.cell? ⟨gi, i * 4 + 3, none⟩ = some (.int .i64 b.2.y) := fun wX hX => by
        obtain ⟨a, c, ev, hq⟩ := (HMO.out.later hX).is
        rw [hM] at ev hq
        cases ev
        obtain ⟨b1, off1, e, d0, d1, d2, d3⟩ := hq.at (i := i) hlt
        cases e
        rw [Nat.zero_add, hML i (Nat.le_refl _), ← hb] at d0 d1 d2 d3
        exact ⟨d0, d1, d2, d3⟩
      have HCL := Lib.hid hcl
      have HCELLS : Hid (∀ wX, Below wr.heap.size wr wX → wX.cell? ⟨gi, i * 4, none⟩ = some (.int .i64 b.1.x) ∧ wX.cell? ⟨gi, i * 4 + 1, none⟩ = some (.int .i64 b.1.y) ∧ wX.cell? ⟨gi, i * 4 + 2, none⟩ = some (.int .i64 b.2.x) ∧ wX.cell? ⟨gi, i * 4 + 3, none⟩ = some (.int .i64 b.2.y) ∧ wX.cell? ⟨bb, off + i * 4, none⟩ = some (.int .i64 b.1.x) ∧ wX.cell? ⟨bb, off + i * 4 + 1, none⟩ = some (.int .i64 b.1.y) ∧ wX.cell? ⟨bb, off + i * 4 + 2, none⟩ = some (.int .i64 b.2.x) ∧ wX.cell? ⟨bb, off + i * 4 + 3, none⟩ = some (.int .i64 b.2.y)) := Lib.hid (fun wX hX => by
        obtain ⟨e0, e1, e2, e3⟩ := HCL.out wX hX
        have hb5 := HST.out.2.2.2.1.trans (hX.mono HST.out.2.2.2.1.size)
        have hq := (HI.out.later hb5 (Nat.le_refl _)).at (i := i) (by omega)
        obtain ⟨b2, off2, e, d0, d1, d2, d3⟩ := hq
        cases e
        rw [← HST.out.2.2.2.2.2.2] at d0 d1 d2 d3
        exact ⟨e0, e1, e2, e3, d0, d1, d2, d3⟩)
      have HIX := Lib.hid (And.intro hi5 (show (0 : Int) ≤ (i : Int) by omega))
      clear hat hcl hb hM hML hMO hMT hMB hgi0 hgiB
      go_wp2_with fail
      have HOK : ∀ f ∈ ([] : List Fct), FctOk f := by
        intro f hf; cases hf
      refine wp_region_J (s := [(56, 0), (57, 1), (58, 2), (59, 3), (60, 4), (61, 5), (62, 6), (63, 7), (64, 8)]) (by kernel_rfl) (GrowJ wr (fun iX => match iX with | 0 => some (.slice (some ⟨gi, 0, none⟩) n ci) | 1 => some (.int .i64 (i : Int)) | 2 => some (.pointer (some ⟨gi, i * 4, none⟩)) | 3 => some (.agg #[.int .i64 b.1.x, .int .i64 b.1.y, .int .i64 b.2.x, .int .i64 b.2.y]) | 4 => some (.slice (some ⟨bb, off, none⟩) n cap) | 5 => some (.int .i64 (i : Int)) | 6 => some (.pointer (some ⟨bb, off + i * 4, none⟩)) | 7 => some (.agg #[.int .i64 b.1.x, .int .i64 b.1.y, .int .i64 b.2.x, .int .i64 b.2.y]) | 8 => some (.bool false) | _ => none) []) (by kernel_rfl) (by kernel_rfl) (by kernel_rfl) (by kernel_rfl) (fun _ => undef) ?start10 ?step10 ?done10
      case start10 => exact GrowJ.start ((Below.refl _ _).drew)
      case step10 =>
        refine ⟨?o10_0, ?o10_1, ?o10_2, ?o10_3, ?o10_4, ?o10_5, ?o10_6, ?o10_7, ?o10_8, trivial⟩
        case o10_0 =>
          intro LX V aX wX K hl hp hcl hf hJ hK
          have t7 : aX.tmps[7]? = some (.slice (some ⟨gi, 0, none⟩) n ci) := hf.old (by kernel_rfl) rfl
          rw [if_pos (by rfl)]
          go_simp
          exact hK _ _ (hJ.val HOK 0 _ (by kernel_rfl) rfl (Below.refl _ _))
        case o10_1 =>
          intro LX V aX wX K hl hp hcl hf hJ hK
          have t10 : aX.tmps[10]? = some (.int .i64 (i : Int)) := hf.old (by kernel_rfl) rfl
          rw [if_pos (by rfl)]
          go_simp
          exact hK _ _ (hJ.val HOK 1 _ (by kernel_rfl) rfl (Below.refl _ _))
        case o10_2 =>
          intro LX V aX wX K hl hp hcl hf hJ hK
          have t56 := hf.in (i := 0) (d := 56) (by kernel_rfl) (hp 0 (by kernel_rfl)) (hJ.vals 0 _ rfl (hp 0 (by kernel_rfl)))
          have t57 := hf.in (i := 1) (d := 57) (by kernel_rfl) (hp 1 (by kernel_rfl)) (hJ.vals 1 _ rfl (hp 1 (by kernel_rfl)))
          have hix := HIX.out
          rw [if_pos (by rfl)]
          go_simp
          exact hK _ _ (hJ.val HOK 2 _ (by kernel_rfl) rfl (Below.refl _ _))
        case o10_3 =>
          intro LX V aX wX K hl hp hcl hf hJ hK
          have t58 := hf.in (i := 2) (d := 58) (by kernel_rfl) (hp 2 (by kernel_rfl)) (hJ.vals 2 _ rfl (hp 2 (by kernel_rfl)))
          obtain ⟨e0, e1, e2, e3, d0, d1, d2, d3⟩ := HCELLS.out wX hJ.below
          rw [if_pos (by rfl)]
          go_simp
          exact hK _ _ (hJ.val HOK 3 _ (by kernel_rfl) rfl (Below.refl _ _))
        case o10_4 =>
          intro LX V aX wX K hl hp hcl hf hJ hK
          have t0 : aX.tmps[0]? = some (.slice (some ⟨bb, off, none⟩) n cap) := hf.old (by kernel_rfl) rfl
          rw [if_pos (by rfl)]
          go_simp
          exact hK _ _ (hJ.val HOK 4 _ (by kernel_rfl) rfl (Below.refl _ _))
        case o10_5 =>
          intro LX V aX wX K hl hp hcl hf hJ hK
          have t10 : aX.tmps[10]? = some (.int .i64 (i : Int)) := hf.old (by kernel_rfl) rfl
          rw [if_pos (by rfl)]
          go_simp
          exact hK _ _ (hJ.val HOK 5 _ (by kernel_rfl) rfl (Below.refl _ _))
        case o10_6 =>
          intro LX V aX wX K hl hp hcl hf hJ hK
          have t60 := hf.in (i := 4) (d := 60) (by kernel_rfl) (hp 4 (by kernel_rfl)) (hJ.vals 4 _ rfl (hp 4 (by kernel_rfl)))
          have t61 := hf.in (i := 5) (d := 61) (by kernel_rfl) (hp 5 (by kernel_rfl)) (hJ.vals 5 _ rfl (hp 5 (by kernel_rfl)))
          have hix := HIX.out
          rw [if_pos (by rfl)]
          go_simp
          exact hK _ _ (hJ.val HOK 6 _ (by kernel_rfl) rfl (Below.refl _ _))
        case o10_7 =>
          intro LX V aX wX K hl hp hcl hf hJ hK
          have t62 := hf.in (i := 6) (d := 62) (by kernel_rfl) (hp 6 (by kernel_rfl)) (hJ.vals 6 _ rfl (hp 6 (by kernel_rfl)))
          obtain ⟨e0, e1, e2, e3, d0, d1, d2, d3⟩ := HCELLS.out wX hJ.below
          rw [if_pos (by rfl)]
          go_simp
          exact hK _ _ (hJ.val HOK 7 _ (by kernel_rfl) rfl (Below.refl _ _))
        case o10_8 =>
          intro LX V aX wX K hl hp hcl hf hJ hK
          have t59 := hf.in (i := 3) (d := 59) (by kernel_rfl) (hp 3 (by kernel_rfl)) (hJ.vals 3 _ rfl (hp 3 (by kernel_rfl)))
          have t63 := hf.in (i := 7) (d := 63) (by kernel_rfl) (hp 7 (by kernel_rfl)) (hJ.vals 7 _ rfl (hp 7 (by kernel_rfl)))
          have hqb := eqBoxS b
          rw [if_pos (by rfl)]
          go_simp
          exact hK _ _ (hJ.val HOK 8 _ (by kernel_rfl) rfl (Below.refl _ _))
      intro V wZ hJ
      have hv := hJ.vals 8 _ rfl (by kernel_rfl)
      have HBZ := Lib.hid hJ.below
      simp only [puts, Act.put, List.setIfInBounds_toArray, List.set_cons_zero, List.set_cons_succ]
      rw [hv]
      clear hJ HOK hv
      obtain ⟨z0, z1, z2, z3⟩ := HCL.out wZ HBZ.out
      have hoz := HMO.out.later HBZ.out
      have f0 := hoz.froz (i * 4)
      have f1 := hoz.froz (i * 4 + 1)
      have f2 := hoz.froz (i * 4 + 2)
      have f3 := hoz.froz (i * 4 + 3)
      have HOZ := Lib.hid hoz
      clear hoz
      go_wp2_with fail
      go_roundw
      case rel =>
        obtain ⟨hM, hML, hMT, hMB, hgi0, hgiB, hb⟩ := HST.out
        have ho := HOZ.out
        rw [← hM] at ho
        have hput := ho.put (i := i) (by omega) farB
        rw [hM] at hput
        refine ⟨i + 1, by omega, by go_num, Lib.hid ⟨M.set i farB, by rw [List.length_set, hM], fun j hj => ?_, hput, ?_, ?_⟩⟩
        · rw [List.getD_eq_getElem?_getD, List.getElem?_set_ne (by omega), ← List.getD_eq_getElem?_getD]
          exact hML j (by omega)
        · exact ((((hMT.move fun k _ hk => HBZ.out.block k hk).low hgiB).low hgiB).low hgiB).low hgiB
        · exact ((((hMB.trans (HBZ.out.mono hMB.size)).setCell (p := ⟨gi, _, none⟩) hgi0 _).setCell (p := ⟨gi, _, none⟩) hgi0 _).setCell (p := ⟨gi, _, none⟩) hgi0 _).setCell (p := ⟨gi, _, none⟩) hgi0 _
      case measure => simp [intOf]; omega
    · have hin2 : n = i := by omega
      subst hin2
      obtain ⟨w5, hw5⟩ : ∃ w5, w5 = wr := ⟨_, rfl⟩
      have HT5 : Hid (TreeIs w5 g L) := Lib.hid (by rw [hw5]; exact ⟨⟨B, hMT⟩, HFEW.out⟩)
      have HB5 : Hid (Below w.heap.size w w5) := Lib.hid (by rw [hw5]; exact hMB)
      subst hw5
      clear hM hML hMO hMT hMB
      go_wp2_with fail
      go_loopw [11] (fun iv wr => ∃ k : Nat, k ≤ np ∧ iv = .int .i64 k ∧ Hid (Below w5.heap.size w5 wr)) (fun iv _ => np - (intOf iv).toNat)
      case atStart => exact ⟨0, by omega, rfl, Below.refl _ _⟩
      case round =>
        obtain ⟨k, hk, rfl, hst⟩ := hrel
        have HST := hst
        clear hst
        by_cases hkl : k < np
        · have hk5 : (k : Int) < (np : Int) := by omega
          have hwk : IntKind.i64.wrap ((k : Int) + 1) = (k : Int) + 1 := IntWalk.i64_in _ (by omega)
          obtain ⟨bp, op, hpo, hpat⟩ := HP.out.2.2.2.1 (by omega)
          subst hpo
          obtain ⟨p, hpp⟩ : ∃ p, p = P.getD k p0 := ⟨_, rfl⟩
          have HPC : Hid (∀ wX, Below w.heap.size w wX → wX.cell? ⟨bp, op + k * 2, none⟩ = some (.int .i64 p.x) ∧ wX.cell? ⟨bp, op + k * 2 + 1, none⟩ = some (.int .i64 p.y)) := Lib.hid (fun wX hX => by
            obtain ⟨d0, d1⟩ := hpat k hkl
            rw [← hpp] at d0 d1
            exact ⟨(hX.cell (p := ⟨bp, op + k * 2, none⟩) (block_lt_of_cell d0)).trans d0, (hX.cell (p := ⟨bp, op + k * 2 + 1, none⟩) (block_lt_of_cell d1)).trans d1⟩)
          have HBR := Lib.hid (HB5.out.trans (HST.out.mono HB5.out.size))
          obtain ⟨c0, c1⟩ := HPC.out wr HBR.out
          have hA := At_any g L p wr (HT5.out.later HST.out)
          unfold ptV at hA
          have HA := Lib.hid hA
          clear hpat hpp hA
          go_wp2_with fail
          refine HA.out.mono ?_
          rintro e w6 ⟨v6, rfl, ho6, hb6⟩
          obtain ⟨xa, xc6, hv6, hi6⟩ := ho6.ints
          obtain ⟨A, hA⟩ : ∃ A, A = askB (atQ p) L := ⟨_, rfl⟩
          rw [← hA] at ho6 hv6 hi6
          obtain ⟨m, hm⟩ : ∃ m, m = A.length := ⟨_, rfl⟩
          rw [← hm] at hv6 hi6
          subst hv6
          have HB6 := Lib.hid (HBR.out.trans (hb6.mono HBR.out.size))
          obtain ⟨c0, c1⟩ := HPC.out w6 HB6.out
          have hR := RAt_any ao n cap L p w6 (HI.out.later HB6.out (Nat.le_refl _)) (by omega)
          unfold ptV AskR at hR
          rw [← hA] at hR
          have HR := Lib.hid hR
          have HI6 := Lib.hid hi6
          have HO6 := Lib.hid (And.intro ho6 hb6)
          have HM := Lib.hid hm
          have hmc := hi6.2.1
          have hmcm : xc6 ≤ 9223372036854775807 := hi6.2.2.1
          clear hR hA ho6 hb6 hi6 hm
          go_wp2_with fail
          refine HR.out.mono ?_
          rintro e w7 ⟨v7, rfl, ho7, hb7⟩
          obtain ⟨ya, yc, hv7, hi7⟩ := ho7.ints
          rw [← HM.out] at hv7 hi7
          subst hv7
          have hS := SameInts_any xa ya m m xc6 yc A A w7 (HI6.out.later hb7 (Nat.le_refl _)) hi7
          rw [show (A == A) = true from beq_self_eq_true _] at hS
          have HS := Lib.hid hS
          have HB7 := Lib.hid hb7
          clear ho7 hi7 hb7 hS
          go_wp2_with fail
          refine HS.out.mono ?_
          rintro e w8 ⟨rfl, hg8⟩
          have hb68 := HB7.out.trans (hg8.1.mono HB7.out.size)
          have HO8 := Lib.hid (HO6.out.1.later hb68)
          have HB8 := Lib.hid (HO6.out.2.trans (hb68.mono HO6.out.2.size))
          clear hg8 hb68
          go_wp2_with fail
          go_loopw [13] (fun kv wx => ∃ q : Nat, q ≤ m ∧ kv = .int .i64 q ∧ Hid (∃ M : List Int, M.length = m ∧ OwnI wx wr.heap.size (.slice xa m xc6) M ∧ Below wr.heap.size wr wx)) (fun kv _ => m - (intOf kv).toNat)
          case atStart => exact ⟨0, by omega, rfl, Lib.hid ⟨A, HM.out.symm, HO8.out, HB8.out⟩⟩
          case round =>
            rename_i kv wx
            obtain ⟨q, hq, rfl, hst2⟩ := hrel
            obtain ⟨M, hMl, hMO, hMB⟩ := hst2.out
            clear hst2
            by_cases hql : q < m
            · have hq5 : (q : Int) < (m : Int) := by omega
              have hwq : IntKind.i64.wrap ((q : Int) + 1) = (q : Int) + 1 := IntWalk.i64_in _ (by omega)
              obtain ⟨ga, hga, hga0, _⟩ := hMO.zero (by omega)
              subst hga
              obtain ⟨a2, c2, ev, hq2⟩ := hMO.ints
              rw [hMl] at ev hq2
              cases ev
              obtain ⟨b2, o2, e, cq⟩ := hq2.at hql
              cases e
              rw [Nat.zero_add] at cq
              have fq := hMO.froz q
              have HMM := Lib.hid (And.intro hMl (And.intro hMO (And.intro hMB hga0)))
              clear hMl hMO hMB hga0 hq2
              go_wp2_with fail
              go_roundw
              case rel =>
                obtain ⟨hMl, hMO, hMB, hga0⟩ := HMM.out
                rw [← hMl] at hMO
                have hput := hMO.put q (-7)
                rw [hMl] at hput
                exact ⟨q + 1, by omega, by go_num, Lib.hid ⟨M.set q (-7), by rw [List.length_set, hMl], hput, hMB.setCell (p := ⟨ga, q, none⟩) hga0 _⟩⟩
              case measure => simp [intOf]; omega
            · have hqm : q = m := by omega
              subst hqm
              have HMB := Lib.hid hMB
              clear hMl hMO hMB
              go_wp2_with fail
              go_roundw
              case rel => exact ⟨k + 1, by omega, by go_num, Lib.hid (HST.out.trans (HMB.out.mono HST.out.size))⟩
              case measure => simp [intOf]; omega
        · have hkn : k = np := by omega
          subst hkn
          have HT6 : Hid (TreeIs wr g L) := Lib.hid (HT5.out.later HST.out)
          have HB6 : Hid (Below w.heap.size w wr) := Lib.hid (HB5.out.trans (HST.out.mono HB5.out.size))
          obtain ⟨w6, hw6⟩ : ∃ w6, w6 = wr := ⟨_, rfl⟩
          rw [← hw6] at HT6 HB6
          subst hw6
          clear HST
          go_wp2_with fail
          go_loopw [14] (fun iv wr => ∃ k : Nat, k ≤ nx ∧ iv = .int .i64 k ∧ Hid (Below w6.heap.size w6 wr)) (fun iv _ => nx - (intOf iv).toNat)
          case atStart => exact ⟨0, by omega, rfl, Below.refl _ _⟩
          case round =>
            obtain ⟨i, hk, rfl, hst⟩ := hrel
            have HST := hst
            clear hst
            by_cases hkl : i < nx
            · have hk5 : (i : Int) < (nx : Int) := by omega
              have hwk : IntKind.i64.wrap ((i : Int) + 1) = (i : Int) + 1 := IntWalk.i64_in _ (by omega)
              obtain ⟨bx, ox, hxo, hxat⟩ := HX.out.1.2.2.2.2 (by omega)
              subst hxo
              obtain ⟨x, hxx⟩ : ∃ x, x = X.getD i bx0 := ⟨_, rfl⟩
              have HBR := Lib.hid (HB6.out.trans (HST.out.mono HB6.out.size))
              have HCELLS : Hid (∀ wX, Below wr.heap.size wr wX → wX.cell? ⟨bx, ox + i * 4, none⟩ = some (.int .i64 x.1.x) ∧ wX.cell? ⟨bx, ox + i * 4 + 1, none⟩ = some (.int .i64 x.1.y) ∧ wX.cell? ⟨bx, ox + i * 4 + 2, none⟩ = some (.int .i64 x.2.x) ∧ wX.cell? ⟨bx, ox + i * 4 + 3, none⟩ = some (.int .i64 x.2.y)) := Lib.hid (fun wX hX => by
                have hb5 := HBR.out.trans (hX.mono HBR.out.size)
                have hq := (HX.out.1.later hb5 (Nat.le_refl _)).at (i := i) (by omega)
                obtain ⟨b2, off2, e, d0, d1, d2, d3⟩ := hq
                cases e
                rw [← hxx] at d0 d1 d2 d3
                exact ⟨d0, d1, d2, d3⟩)
              obtain ⟨A, hA⟩ : ∃ A, A = askB (overQ x) L := ⟨_, rfl⟩
              have HOV : Hid (∀ wX, Below wr.heap.size wr wX → Calls Try.prog 16 #[.pointer (some ⟨g, 0, none⟩), .agg #[.int .i64 x.1.x, .int .i64 x.1.y, .int .i64 x.2.x, .int .i64 x.2.y]] wX fun e w' => ∃ v, e = .returned v ∧ OwnI w' wX.heap.size v A ∧ Below wX.heap.size wX w') := Lib.hid (fun wX hX => by
                have := Over_any g L x wX ((HT6.out.later HST.out).later hX)
                unfold boxV AskR at this
                rw [← hA] at this
                exact this)
              have HRO : Hid (∀ wX, Below wr.heap.size wr wX → Calls Try.prog 17 #[.slice ao n cap, .agg #[.int .i64 x.1.x, .int .i64 x.1.y, .int .i64 x.2.x, .int .i64 x.2.y]] wX fun e w' => ∃ v, e = .returned v ∧ OwnI w' wX.heap.size v A ∧ Below wX.heap.size wX w') := Lib.hid (fun wX hX => by
                have := ROver_any ao n cap L x wX (HI.out.later (HBR.out.trans (hX.mono HBR.out.size)) (Nat.le_refl _)) (by omega)
                unfold boxV AskR at this
                rw [← hA] at this
                exact this)
              have HIX := Lib.hid (And.intro hk5 (show (0 : Int) ≤ (i : Int) by omega))
              clear hxat hA hxx
              go_wp2_with fail
              have HOK : ∀ f ∈ ([⟨5, fun v w => ∃ x y z, v = .slice x y z ∧ IsInts w x y z A⟩, ⟨11, fun v w => ∃ x y z, v = .slice x y z ∧ IsInts w x y z A⟩] : List Fct), FctOk f := by
                intro f hf
                simp only [List.mem_cons, List.not_mem_nil, or_false] at hf
                rcases hf with rfl | rfl
                · exact fun v w w' ⟨x, y, z, h1, h2⟩ hb => ⟨x, y, z, h1, h2.later hb (Nat.le_refl _)⟩
                · exact fun v w w' ⟨x, y, z, h1, h2⟩ hb => ⟨x, y, z, h1, h2.later hb (Nat.le_refl _)⟩
              refine wp_region_J (s := [(106, 0), (107, 1), (108, 2), (109, 3), (110, 4), (111, 5), (112, 6), (113, 7), (114, 8), (115, 9), (116, 10), (117, 11), (118, 12), (119, 13)]) (by kernel_rfl) (GrowJ wr (fun iX => match iX with | 0 => some (.pointer (some ⟨g, 0, none⟩)) | 1 => some (.slice (some ⟨bx, ox, none⟩) nx xc) | 2 => some (.int .i64 (i : Int)) | 3 => some (.pointer (some ⟨bx, ox + i * 4, none⟩)) | 4 => some (.agg #[.int .i64 x.1.x, .int .i64 x.1.y, .int .i64 x.2.x, .int .i64 x.2.y]) | 6 => some (.slice ao n cap) | 7 => some (.slice (some ⟨bx, ox, none⟩) nx xc) | 8 => some (.int .i64 (i : Int)) | 9 => some (.pointer (some ⟨bx, ox + i * 4, none⟩)) | 10 => some (.agg #[.int .i64 x.1.x, .int .i64 x.1.y, .int .i64 x.2.x, .int .i64 x.2.y]) | 12 => some (.bool true) | 13 => some (.bool false) | _ => none) [⟨5, fun v w => ∃ x y z, v = .slice x y z ∧ IsInts w x y z A⟩, ⟨11, fun v w => ∃ x y z, v = .slice x y z ∧ IsInts w x y z A⟩]) (by kernel_rfl) (by kernel_rfl) (by kernel_rfl) (by kernel_rfl) (fun _ => undef) ?start26 ?step26 ?done26
              case start26 => exact GrowJ.start ((Below.refl _ _).drew)
              case step26 =>
                refine ⟨?o26_0, ?o26_1, ?o26_2, ?o26_3, ?o26_4, ?o26_5, ?o26_6, ?o26_7, ?o26_8, ?o26_9, ?o26_10, ?o26_11, ?o26_12, ?o26_13, trivial⟩
                case o26_0 =>
                  intro LX V aX wX K hl hp hcl hf hJ hK
                  have t8 : aX.tmps[8]? = some (.pointer (some ⟨g, 0, none⟩)) := hf.old (by kernel_rfl) rfl
                  rw [if_pos (by rfl)]
                  go_simp
                  exact hK _ _ (hJ.val HOK 0 _ (by kernel_rfl) rfl (Below.refl _ _))
                case o26_1 =>
                  intro LX V aX wX K hl hp hcl hf hJ hK
                  have t2 : aX.tmps[2]? = some (.slice (some ⟨bx, ox, none⟩) nx xc) := hf.old (by kernel_rfl) rfl
                  rw [if_pos (by rfl)]
                  go_simp
                  exact hK _ _ (hJ.val HOK 1 _ (by kernel_rfl) rfl (Below.refl _ _))
                case o26_2 =>
                  intro LX V aX wX K hl hp hcl hf hJ hK
                  have t14 : aX.tmps[14]? = some (.int .i64 (i : Int)) := hf.old (by kernel_rfl) rfl
                  rw [if_pos (by rfl)]
                  go_simp
                  exact hK _ _ (hJ.val HOK 2 _ (by kernel_rfl) rfl (Below.refl _ _))
                case o26_3 =>
                  intro LX V aX wX K hl hp hcl hf hJ hK
                  have t107 := hf.in (i := 1) (d := 107) (by kernel_rfl) (hp 1 (by kernel_rfl)) (hJ.vals 1 _ rfl (hp 1 (by kernel_rfl)))
                  have t108 := hf.in (i := 2) (d := 108) (by kernel_rfl) (hp 2 (by kernel_rfl)) (hJ.vals 2 _ rfl (hp 2 (by kernel_rfl)))
                  have hix := HIX.out
                  rw [if_pos (by rfl)]
                  go_simp
                  exact hK _ _ (hJ.val HOK 3 _ (by kernel_rfl) rfl (Below.refl _ _))
                case o26_4 =>
                  intro LX V aX wX K hl hp hcl hf hJ hK
                  have t109 := hf.in (i := 3) (d := 109) (by kernel_rfl) (hp 3 (by kernel_rfl)) (hJ.vals 3 _ rfl (hp 3 (by kernel_rfl)))
                  obtain ⟨e0, e1, e2, e3⟩ := HCELLS.out wX hJ.below
                  rw [if_pos (by rfl)]
                  go_simp
                  exact hK _ _ (hJ.val HOK 4 _ (by kernel_rfl) rfl (Below.refl _ _))
                case o26_5 =>
                  intro LX V aX wX K hl hp hcl hf hJ hK
                  have t106 := hf.in (i := 0) (d := 106) (by kernel_rfl) (hp 0 (by kernel_rfl)) (hJ.vals 0 _ rfl (hp 0 (by kernel_rfl)))
                  have t110 := hf.in (i := 4) (d := 110) (by kernel_rfl) (hp 4 (by kernel_rfl)) (hJ.vals 4 _ rfl (hp 4 (by kernel_rfl)))
                  rw [if_pos (by rfl)]
                  go_simp
                  refine (HOV.out _ hJ.below).mono ?_
                  rintro e wA ⟨v, rfl, ho, hbA⟩
                  obtain ⟨a, c, hv, hi⟩ := ho.ints
                  exact hK _ _ (hJ.step HOK 5 _ trivial (hbA) (by
                    intro f hf hfi
                    simp only [List.mem_cons, List.not_mem_nil, or_false] at hf
                    rcases hf with rfl | rfl
                    · exact ⟨a, _, c, hv, hi⟩
                    · exact absurd (show (11 : Nat) = 5 from hfi) (by decide)
                    ))
                case o26_6 =>
                  intro LX V aX wX K hl hp hcl hf hJ hK
                  have t0 : aX.tmps[0]? = some (.slice ao n cap) := hf.old (by kernel_rfl) rfl
                  rw [if_pos (by rfl)]
                  go_simp
                  exact hK _ _ (hJ.val HOK 6 _ (by kernel_rfl) rfl (Below.refl _ _))
                case o26_7 =>
                  intro LX V aX wX K hl hp hcl hf hJ hK
                  have t2 : aX.tmps[2]? = some (.slice (some ⟨bx, ox, none⟩) nx xc) := hf.old (by kernel_rfl) rfl
                  rw [if_pos (by rfl)]
                  go_simp
                  exact hK _ _ (hJ.val HOK 7 _ (by kernel_rfl) rfl (Below.refl _ _))
                case o26_8 =>
                  intro LX V aX wX K hl hp hcl hf hJ hK
                  have t14 : aX.tmps[14]? = some (.int .i64 (i : Int)) := hf.old (by kernel_rfl) rfl
                  rw [if_pos (by rfl)]
                  go_simp
                  exact hK _ _ (hJ.val HOK 8 _ (by kernel_rfl) rfl (Below.refl _ _))
                case o26_9 =>
                  intro LX V aX wX K hl hp hcl hf hJ hK
                  have t113 := hf.in (i := 7) (d := 113) (by kernel_rfl) (hp 7 (by kernel_rfl)) (hJ.vals 7 _ rfl (hp 7 (by kernel_rfl)))
                  have t114 := hf.in (i := 8) (d := 114) (by kernel_rfl) (hp 8 (by kernel_rfl)) (hJ.vals 8 _ rfl (hp 8 (by kernel_rfl)))
                  have hix := HIX.out
                  rw [if_pos (by rfl)]
                  go_simp
                  exact hK _ _ (hJ.val HOK 9 _ (by kernel_rfl) rfl (Below.refl _ _))
                case o26_10 =>
                  intro LX V aX wX K hl hp hcl hf hJ hK
                  have t115 := hf.in (i := 9) (d := 115) (by kernel_rfl) (hp 9 (by kernel_rfl)) (hJ.vals 9 _ rfl (hp 9 (by kernel_rfl)))
                  obtain ⟨e0, e1, e2, e3⟩ := HCELLS.out wX hJ.below
                  rw [if_pos (by rfl)]
                  go_simp
                  exact hK _ _ (hJ.val HOK 10 _ (by kernel_rfl) rfl (Below.refl _ _))
                case o26_11 =>
                  intro LX V aX wX K hl hp hcl hf hJ hK
                  have t112 := hf.in (i := 6) (d := 112) (by kernel_rfl) (hp 6 (by kernel_rfl)) (hJ.vals 6 _ rfl (hp 6 (by kernel_rfl)))
                  have t116 := hf.in (i := 10) (d := 116) (by kernel_rfl) (hp 10 (by kernel_rfl)) (hJ.vals 10 _ rfl (hp 10 (by kernel_rfl)))
                  rw [if_pos (by rfl)]
                  go_simp
                  refine (HRO.out _ hJ.below).mono ?_
                  rintro e wA ⟨v, rfl, ho, hbA⟩
                  obtain ⟨a, c, hv, hi⟩ := ho.ints
                  exact hK _ _ (hJ.step HOK 11 _ trivial (hbA) (by
                    intro f hf hfi
                    simp only [List.mem_cons, List.not_mem_nil, or_false] at hf
                    rcases hf with rfl | rfl
                    · exact absurd (show (5 : Nat) = 11 from hfi) (by decide)
                    · exact ⟨a, _, c, hv, hi⟩
                    ))
                case o26_12 =>
                  intro LX V aX wX K hl hp hcl hf hJ hK
                  have t111 := hf.in (i := 5) (d := 111) (by kernel_rfl) (hp 5 (by kernel_rfl)) rfl
                  have t117 := hf.in (i := 11) (d := 117) (by kernel_rfl) (hp 11 (by kernel_rfl)) rfl
                  have q0 := hJ.facts ⟨5, fun v w => ∃ x y z, v = .slice x y z ∧ IsInts w x y z A⟩ (List.mem_of_getElem? (i := 0) rfl) (hp 5 (by kernel_rfl))
                  have q1 := hJ.facts ⟨11, fun v w => ∃ x y z, v = .slice x y z ∧ IsInts w x y z A⟩ (List.mem_of_getElem? (i := 1) rfl) (hp 11 (by kernel_rfl))
                  obtain ⟨x1, y1, z1, hv1, hi1⟩ := q0
                  obtain ⟨x2, y2, z2, hv2, hi2⟩ := q1
                  rw [hv1] at t111
                  rw [hv2] at t117
                  rw [if_pos (by rfl)]
                  go_simp
                  have he := SameInts_any x1 x2 y1 y2 z1 z2 A A wX hi1 hi2
                  rw [show (A == A) = true from beq_self_eq_true _] at he
                  refine he.mono ?_
                  rintro e wA ⟨rfl, hgA⟩
                  exact hK _ _ (hJ.val HOK 12 _ (by kernel_rfl) rfl (hgA.1))
                case o26_13 =>
                  intro LX V aX wX K hl hp hcl hf hJ hK
                  have t118 := hf.in (i := 12) (d := 118) (by kernel_rfl) (hp 12 (by kernel_rfl)) (hJ.vals 12 _ rfl (hp 12 (by kernel_rfl)))
                  rw [if_pos (by rfl)]
                  go_simp
                  exact hK _ _ (hJ.val HOK 13 _ (by kernel_rfl) rfl (Below.refl _ _))
              intro V wZ hJ
              have hv := hJ.vals 13 _ rfl (by kernel_rfl)
              have HBZ := Lib.hid hJ.below
              simp only [puts, Act.put, List.setIfInBounds_toArray, List.set_cons_zero, List.set_cons_succ]
              rw [hv]
              clear hJ HOK hv
              go_wp2_with fail
              go_roundw
              case rel => exact ⟨i + 1, by omega, by go_num, Lib.hid (HST.out.trans (HBZ.out.mono HST.out.size))⟩
              case measure => simp [intOf]; omega
            · have hkx : i = nx := by omega
              subst hkx
              go_wp2_with fail
              refine (awake_any wr).mono ?_
              rintro e w9 ⟨rfl, hb9⟩
              have HB9 := Lib.hid (HB6.out.trans ((HST.out.trans (hb9.mono HST.out.size)).mono HB6.out.size))
              clear hb9
              go_wp2_with fail
              go_ret
              exact ⟨rfl, HB9.out⟩
end Go.Proofs.Ytlmmejdcjhbppaa
