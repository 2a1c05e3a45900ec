/- the document's numbers: carried -/
import Derived.Test.YtgijaaklhdcgeaaGreatMNum1
import Derived.BigRegion
import Derived.Deep.CutBlock
import Derived.Deep.DeepCutAuto
import Derived.IntWalk
set_option linter.unusedSimpArgs false
set_option linter.unusedVariables false
namespace Go.Proofs.YtgijaaklhdcgeaaGreat
open Go.RowKit Go.Geo
attribute [local go_sem] Oper.semAt_some
theorem heap_ltN {w : World} {j : Nat} {o : Obj} (h : w.heap[j]? = some o) : j < w.heap.size := (Array.getElem?_eq_some_iff.1 h).1
/-- a number, handed back. -/
def NumR (z : Int) (w : World) (e : Ending) (w' : World) : Prop := ∃ neg D, e = .returned (.agg (numA neg D)) ∧ Canon neg D z ∧ Grew w w'
theorem num13 {w : World} {g : Nat} {neg : Bool} {d0 d1 d2 d3 d4 d5 d6 d7 d8 d9 d10 d11 : Int} {t : TypeId} (h : w.heap[g]? = some (.cells (numA neg [d0, d1, d2, d3, d4, d5, d6, d7, d8, d9, d10, d11]) t (0, 0))) :
    w.cell? ⟨g, 0, none⟩ = some (.bool neg) ∧ w.cell? ⟨g, 1, none⟩ = some (.int .i64 d0) ∧ w.cell? ⟨g, 2, none⟩ = some (.int .i64 d1) ∧ w.cell? ⟨g, 3, none⟩ = some (.int .i64 d2) ∧ w.cell? ⟨g, 4, none⟩ = some (.int .i64 d3) ∧ w.cell? ⟨g, 5, none⟩ = some (.int .i64 d4) ∧ w.cell? ⟨g, 6, none⟩ = some (.int .i64 d5) ∧ w.cell? ⟨g, 7, none⟩ = some (.int .i64 d6) ∧ w.cell? ⟨g, 8, none⟩ = some (.int .i64 d7) ∧ w.cell? ⟨g, 9, none⟩ = some (.int .i64 d8) ∧ w.cell? ⟨g, 10, none⟩ = some (.int .i64 d9) ∧ w.cell? ⟨g, 11, none⟩ = some (.int .i64 d10) ∧ w.cell? ⟨g, 12, none⟩ = some (.int .i64 d11) :=
  ⟨num_sign h, (cell_of_row _ _ _ _ _ _ h), (cell_of_row _ _ _ _ _ _ h), (cell_of_row _ _ _ _ _ _ h), (cell_of_row _ _ _ _ _ _ h), (cell_of_row _ _ _ _ _ _ h), (cell_of_row _ _ _ _ _ _ h), (cell_of_row _ _ _ _ _ _ h), (cell_of_row _ _ _ _ _ _ h), (cell_of_row _ _ _ _ _ _ h), (cell_of_row _ _ _ _ _ _ h), (cell_of_row _ _ _ _ _ _ h), (cell_of_row _ _ _ _ _ _ h)⟩
theorem numA_of {neg : Bool} {D : List Int} (hl : D.length = 12) : numA neg D = #[.bool neg, .int .i64 (D.getD 0 0), .int .i64 (D.getD 1 0), .int .i64 (D.getD 2 0), .int .i64 (D.getD 3 0), .int .i64 (D.getD 4 0), .int .i64 (D.getD 5 0), .int .i64 (D.getD 6 0), .int .i64 (D.getD 7 0), .int .i64 (D.getD 8 0), .int .i64 (D.getD 9 0), .int .i64 (D.getD 10 0), .int .i64 (D.getD 11 0)] := by
  obtain ⟨d0, d1, d2, d3, d4, d5, d6, d7, d8, d9, d10, d11, rfl⟩ := twelve hl
  rfl
theorem fro13 {w : World} {g : Nat} {c : Array Value} {t : TypeId} (h : w.heap[g]? = some (.cells c t (0, 0))) : w.frozen? ⟨g, 0, none⟩ = false ∧ w.frozen? ⟨g, 1, none⟩ = false ∧ w.frozen? ⟨g, 2, none⟩ = false ∧ w.frozen? ⟨g, 3, none⟩ = false ∧ w.frozen? ⟨g, 4, none⟩ = false ∧ w.frozen? ⟨g, 5, none⟩ = false ∧ w.frozen? ⟨g, 6, none⟩ = false ∧ w.frozen? ⟨g, 7, none⟩ = false ∧ w.frozen? ⟨g, 8, none⟩ = false ∧ w.frozen? ⟨g, 9, none⟩ = false ∧ w.frozen? ⟨g, 10, none⟩ = false ∧ w.frozen? ⟨g, 11, none⟩ = false ∧ w.frozen? ⟨g, 12, none⟩ = false :=
  ⟨frozen_of_row _ _ _ _ _ h, frozen_of_row _ _ _ _ _ h, frozen_of_row _ _ _ _ _ h, frozen_of_row _ _ _ _ _ h, frozen_of_row _ _ _ _ _ h, frozen_of_row _ _ _ _ _ h, frozen_of_row _ _ _ _ _ h, frozen_of_row _ _ _ _ _ h, frozen_of_row _ _ _ _ _ h, frozen_of_row _ _ _ _ _ h, frozen_of_row _ _ _ _ _ h, frozen_of_row _ _ _ _ _ h, frozen_of_row _ _ _ _ _ h⟩
/-- a number is written over another one. -/
theorem put13 {w : World} {g : Nat} {neg : Bool} {D : List Int} {t : TypeId} (h : w.heap[g]? = some (.cells (numA neg D) t (0, 0))) (hl : D.length = 12) (c : Array Value) (hc : c.size = 13) : (w.setCells g 0 c.toList).heap[g]? = some (.cells c t (0, 0)) := by
  have key : ∀ (vs : List Value) (o : Nat) (w : World) (cur : Array Value), w.heap[g]? = some (.cells cur t (0, 0)) → o + vs.length ≤ cur.size → ∃ c2, (w.setCells g o vs).heap[g]? = some (.cells c2 t (0, 0)) ∧ c2.size = cur.size ∧ (∀ j, j < o → c2[j]? = cur[j]?) ∧ (∀ j, j < vs.length → c2[o + j]? = vs[j]?) ∧ (∀ j, o + vs.length ≤ j → c2[j]? = cur[j]?) := by
    intro vs
    induction vs with
    | nil => intro o w cur h _; exact ⟨cur, h, rfl, fun _ _ => rfl, fun j hj => absurd hj (by simp), fun _ _ => rfl⟩
    | cons v vs ih =>
      intro o w cur h hsz
      simp only [List.length_cons] at hsz
      have h1 := heap_setCell_same w g o _ _ v h
      obtain ⟨c2, k1, k2, k3, k4, k5⟩ := ih (o + 1) _ _ h1 (by simp; omega)
      refine ⟨c2, k1, by simpa using k2, fun j hj => ?_, fun j hj => ?_, fun j hj => ?_⟩
      · rw [k3 j (by omega), Array.getElem?_setIfInBounds, if_neg (by omega)]
      · match j, hj with
        | 0, _ =>
          rw [Nat.add_zero, k3 o (by omega), Array.getElem?_setIfInBounds, if_pos rfl, if_pos (by omega)]
          rfl
        | j + 1, hj =>
          have := k4 j (by simpa using hj)
          rw [show o + (j + 1) = o + 1 + j by omega, this]
          rfl
      · simp only [List.length_cons] at hj
        rw [k5 j (by omega), Array.getElem?_setIfInBounds, if_neg (by omega)]
  obtain ⟨c2, k1, k2, _, k4, _⟩ := key c.toList 0 w _ h (by rw [numA_size hl]; simp [hc])
  rw [k1]
  have : c2 = c := by
    apply Array.ext_getElem?
    intro j
    by_cases hj : j < 13
    · have := k4 j (by simp [hc, hj])
      rw [Nat.zero_add] at this
      rw [this, Array.getElem?_toList]
    · rw [Array.getElem?_eq_none (by rw [k2, numA_size hl]; omega), Array.getElem?_eq_none (by omega)]
  rw [this]
theorem grew_setCells {w w1 : World} (h : Grew w w1) {g : Nat} (hg : w.heap.size ≤ g) : ∀ (vs : List Value) (o : Nat), Grew w (w1.setCells g o vs) := by
  intro vs
  induction vs generalizing w1 with
  | nil => intro o; exact h
  | cons v vs ih => intro o; exact ih (grew_setCell h hg v) (o + 1)
/-- the end: the answer stands in the result's cells. -/
theorem num_end {fn : Func} {p : Tmp} {w w2 w3 : World} {a : Act} {neg n0 : Bool} {D D0 : List Int} {z : Int} {g : Nat} (h : fn.results = #[.cell p 138]) (hp : a.tmps.getD p undef = .pointer (some ⟨g, 0, none⟩)) (hd : a.defers = []) (hg : w.heap.size ≤ g)
    (hr : Hid (Grew w w2 ∧ w2.heap[g]? = some (.cells (numA n0 D0) 138 (0, 0)) ∧ D0.length = 12)) (hc : Hid (Canon neg D z)) (hw : w3 = w2.setCells g 0 (numA neg D).toList) :
    bodyPost Tryz.prog fn (NumR z w) .ret a w3 := by
  subst hw
  have hl := hc.out.1
  have hrow := put13 hr.out.2.1 hr.out.2.2 (numA neg D) (numA_size hl)
  exact bodyPost_ret (results_cell_row h a.tmps _ _ _ _ _ _ hp hrow Tryz.underlying138 rfl (by rw [numA_size hl]; exact info_num)) hd ⟨neg, D, rfl, hc.out, grew_setCells hr.out.1 hg _ _⟩
set_option maxRecDepth 100000 in
set_option maxHeartbeats 4000000 in
theorem carried_any (neg : Bool) (D : List Int) (v z : Int) (w : World) (h : Carry 0 v D) (hv : v < 65536 ^ 12) (hz : z = if neg then -v else v) :
    Calls Tryz.prog 127 #[.agg (numA neg D)] w (NumR z w) := by
  have HC := Lib.hid h
  have HV := Lib.hid hv
  have HZE := Lib.hid hz
  have HZ := Lib.hid zero_any
  have hrow := alloc_new w (.cells (numA neg D) 138)
  obtain ⟨W0, hW0⟩ : ∃ W, W = (w.alloc (.cells (numA neg D) 138)).alloc (.cells #[.bool false, .int .i64 0, .int .i64 0, .int .i64 0, .int .i64 0, .int .i64 0, .int .i64 0, .int .i64 0, .int .i64 0, .int .i64 0, .int .i64 0, .int .i64 0, .int .i64 0] 138) := ⟨_, rfl⟩
  have a0 : W0.heap[w.heap.size]? = some (.cells (numA neg D) 138 (0, 0)) := by rw [hW0]; exact (Below.heap_alloc _ _ _ (by simp)).trans (alloc_new _ _)
  have a1 : W0.heap[w.heap.size + 1]? = some (.cells (numA false [0,0,0,0,0,0,0,0,0,0,0,0]) 138 (0, 0)) := by rw [hW0]; exact alloc_new2 _ _ _
  have hg0 : Grew w W0 := by rw [hW0]; exact ((Grew.refl _).alloc _).alloc _
  have H0 := Lib.hid (And.intro a0 (And.intro a1 hg0))
  clear h hv hrow hz a0 a1 hg0
  go_enter Tryz.func127, Tryz.ntmps127
  go_wp2_with fail
  rw [← hW0]
  clear hW0
  go_loopw [3] (fun i wr => ∃ k : Nat, k ≤ 11 ∧ i = .int .i64 k ∧ ∃ E, Hid (Carry k v E ∧ wr.heap[w.heap.size]? = some (.cells (numA neg E) 138 (0, 0)) ∧ wr.heap[w.heap.size + 1]? = some (.cells (numA false [0,0,0,0,0,0,0,0,0,0,0,0]) 138 (0, 0)) ∧ Grew w wr)) (fun i _ => 11 - (intOf i).toNat)
  case atStart => exact ⟨0, by omega, rfl, D, Lib.hid ⟨HC.out, H0.out.1, H0.out.2.1, H0.out.2.2⟩⟩
  case round =>
    obtain ⟨k, hk, rfl, E, hr⟩ := hrel
    by_cases hlt : k < 11
    · have hk0 : (0 : Int) ≤ (k : Int) := by omega
      have hk5 : (k : Int) < 11 := by omega
      have hl := hr.out.1.1
      have e0 := num_cell hr.out.2.1 (i := k) (by omega)
      have e1 := num_cell hr.out.2.1 (i := k + 1) (by omega)
      have r0 := hr.out.1.2.2.2 k (Nat.le_refl _) (by omega)
      have r1 := hr.out.1.2.2.2 (k + 1) (by omega) (by omega)
      rw [if_pos rfl] at r0
      rw [if_neg (by omega)] at r1
      obtain ⟨x, hx⟩ : ∃ x, x = E.getD k 0 := ⟨_, rfl⟩
      obtain ⟨y, hy⟩ : ∃ x, x = E.getD (k + 1) 0 := ⟨_, rfl⟩
      rw [← hx] at e0 r0
      rw [← hy] at e1 r1
      obtain ⟨r01, r02⟩ := r0
      obtain ⟨r11, r12⟩ := r1
      have f0 := frozen_of_row _ w.heap.size (1 + k) _ _ hr.out.2.1
      have f1 := frozen_of_row _ w.heap.size (1 + (k + 1)) _ _ hr.out.2.1
      have hs := hr.out.1.step hlt
      rw [← hx, ← hy] at hs
      have HS := Lib.hid hs
      have HX := Lib.hid (And.intro hx hy)
      have hk1 : (0 : Int) ≤ (k : Int) + 1 := by omega
      have hk2 : (k : Int) + 1 < 12 := by omega
      have hk3 : (k : Int) < 12 := by omega
      have hq0 : 0 ≤ x / 65536 := by omega
      have hq1 : x / 65536 ≤ 8589934592 := by omega
      clear hx hy hs hl
      go_wp2_with fail
      go_region
      have p1 := num_put hr.out.2.1 (k + 1) (y + x / 65536)
      have a1 : (wr.setCell ⟨w.heap.size, 1 + (k + 1), none⟩ (.int .i64 (y + x / 65536))).heap[w.heap.size + 1]? = _ := (heap_other (by omega)).trans hr.out.2.2.1
      have g1 := (grew_setCell hr.out.2.2.2 (Nat.le_refl w.heap.size) (o := 1 + (k + 1)) (.int .i64 (y + x / 65536))).drew
      obtain ⟨W4, hW4⟩ : ∃ W, W = (wr.setCell ⟨w.heap.size, 1 + (k + 1), none⟩ (.int .i64 (y + x / 65536))).drew := ⟨_, rfl⟩
      have p1 : W4.heap[w.heap.size]? = some (.cells (numA neg (E.set (k + 1) (y + x / 65536))) 138 (0, 0)) := by rw [hW4]; exact p1
      have a1 : W4.heap[w.heap.size + 1]? = some (.cells (numA false [0,0,0,0,0,0,0,0,0,0,0,0]) 138 (0, 0)) := by rw [hW4]; exact a1
      rw [← hW4] at g1
      try rw [← hW4]
      have hl := hr.out.1.1
      have e2 := num_cell p1 (i := k) (by simp; omega)
      rw [getD_set (by omega), if_neg (by omega), ← HX.out.1] at e2
      have f2 := frozen_of_row _ w.heap.size (1 + k) _ _ p1
      have H4 := Lib.hid (And.intro p1 (And.intro a1 g1))
      have hm0 : 0 ≤ x % 65536 := by omega
      have hm1 : x % 65536 < 65536 := by omega
      clear p1 a1 g1 hW4 e0 e1 f0 f1 hl
      go_wp2_with fail
      go_roundw
      case rel =>
        refine ⟨k + 1, by omega, by go_num, _, Lib.hid ⟨HS.out, num_put H4.out.1 k (x % 65536), ?_, ?_⟩⟩
        · exact (heap_other (by omega)).trans H4.out.2.1
        · exact grew_setCell H4.out.2.2 (Nat.le_refl _) _
      case measure => simp [intOf]; omega
    · obtain rfl : k = 11 := by omega
      have hcn := hr.out.1.canon (neg := neg) HV.out
      have hdg := hr.out.1.done HV.out
      obtain ⟨d0, d1, d2, d3, d4, d5, d6, d7, d8, d9, d10, d11, rfl⟩ := twelve hr.out.1.1
      obtain ⟨x0, x1, x2, x3, x4, x5, x6, x7, x8, x9, x10, x11, x12⟩ := num13 hr.out.2.1
      have hzc := HZ.out neg _ wr hr.out.1.1 (fun d hd => (hdg d hd).1)
      obtain ⟨q, hq⟩ : ∃ q, q = decide (valD [d0, d1, d2, d3, d4, d5, d6, d7, d8, d9, d10, d11] = 0) := ⟨_, rfl⟩
      rw [← hq] at hzc hcn
      rw [numA_lit] at hzc
      rw [← HZE.out] at hcn
      have HZC := Lib.hid hzc
      have HCN := Lib.hid hcn
      clear hcn hdg hzc hq
      go_wp2_with fail
      refine HZC.out.mono ?_
      rintro e w5 ⟨rfl, hg5⟩
      have p5 := (hg5.1.block _ (heap_ltN hr.out.2.1)).trans hr.out.2.1
      have p6 := (hg5.1.block _ (heap_ltN hr.out.2.2.1)).trans hr.out.2.2.1
      have H5 := Lib.hid (And.intro p5 (And.intro p6 (hr.out.2.2.2.trans hg5)))
      clear hg5 p5 p6 x0 x1 x2 x3 x4 x5 x6 x7 x8 x9 x10 x11 x12
      obtain ⟨y0, y1, y2, y3, y4, y5, y6, y7, y8, y9, y10, y11, y12⟩ := num13 H5.out.2.1
      obtain ⟨f0, f1, f2, f3, f4, f5, f6, f7, f8, f9, f10, f11, f12⟩ := fro13 H5.out.2.1
      cases q with
      | false =>
        obtain ⟨x0, x1, x2, x3, x4, x5, x6, x7, x8, x9, x10, x11, x12⟩ := num13 H5.out.1
        go_wp2_with fail
        exact num_end (g := w.heap.size + 1) rfl rfl rfl (Nat.le_succ _) (Lib.hid ⟨H5.out.2.2, H5.out.2.1, rfl⟩) HCN rfl
      | true =>
        obtain ⟨x0, x1, x2, x3, x4, x5, x6, x7, x8, x9, x10, x11, x12⟩ := num13 H5.out.1
        have zf := frozen_of_row _ w.heap.size 0 _ _ H5.out.1
        have H6 := Lib.hid (And.intro (grew_setCell H5.out.2.2 (Nat.le_refl w.heap.size) (o := 0) (.bool false)) ((heap_other (w := w5) (off := 0) (v := .bool false) (show w.heap.size + 1 ≠ w.heap.size by omega)).trans H5.out.2.1))
        go_wp2_with fail
        exact num_end (g := w.heap.size + 1) rfl rfl rfl (Nat.le_succ _) (Lib.hid ⟨H6.out.1, H6.out.2, rfl⟩) HCN rfl
end Go.Proofs.YtgijaaklhdcgeaaGreat

/- the document's numbers: Less, Sgn, size -/
set_option linter.unusedSimpArgs false
set_option linter.unusedVariables false
namespace Go.Proofs.YtgijaaklhdcgeaaGreat
open Go.RowKit Go.Geo
attribute [local go_sem] Oper.semAt_some
theorem numA_zero : numA false [0,0,0,0,0,0,0,0,0,0,0,0] = #[.bool false, .int .i64 0, .int .i64 0, .int .i64 0, .int .i64 0, .int .i64 0, .int .i64 0, .int .i64 0, .int .i64 0, .int .i64 0, .int .i64 0, .int .i64 0, .int .i64 0] := rfl
theorem digits_carry {D : List Int} (h : Digits D) (hl : D.length = 12) : Carry 0 (valD D) D ∧ valD D < 65536 ^ 12 :=
  ⟨Carry.start hl (fun d hd => by have := h d hd; omega), by have := (valD_range D h).2; rw [hl] at this; exact this⟩
set_option maxRecDepth 100000 in
set_option maxHeartbeats 4000000 in
theorem Less_any (neg : Bool) (D : List Int) (z : Int) (w : World) (h : Canon neg D z) :
    Calls Tryz.prog 120 #[.agg (numA neg D)] w (NumR (-z) w) := by
  have hcy := digits_carry h.2.1 h.1
  have hz : -z = if !neg then -(valD D) else valD D := by
    rw [h.2.2.1]; unfold numZ; cases neg
    · rfl
    · simp
  obtain ⟨d0, d1, d2, d3, d4, d5, d6, d7, d8, d9, d10, d11, rfl⟩ := twelve h.1
  have HCR := Lib.hid (fun w => carried_any (!neg) _ _ _ w hcy.1 hcy.2 hz)
  rw [numA_lit] at HCR ⊢
  obtain ⟨y, hy⟩ : ∃ y, y = -z := ⟨_, rfl⟩
  rw [← hy] at HCR ⊢
  obtain ⟨W0, hW0⟩ : ∃ W, W = (w.alloc (.cells (numA neg [d0, d1, d2, d3, d4, d5, d6, d7, d8, d9, d10, d11]) 138)).alloc (.cells (numA false [0,0,0,0,0,0,0,0,0,0,0,0]) 138) := ⟨_, rfl⟩
  have a0 : W0.heap[w.heap.size]? = some (.cells (numA neg [d0, d1, d2, d3, d4, d5, d6, d7, d8, d9, d10, d11]) 138 (0, 0)) := by rw [hW0]; exact (Below.heap_alloc _ _ _ (by simp)).trans (alloc_new _ _)
  have a1 : W0.heap[w.heap.size + 1]? = some (.cells (numA false [0,0,0,0,0,0,0,0,0,0,0,0]) 138 (0, 0)) := by rw [hW0]; exact alloc_new2 _ _ _
  have hg0 : Grew w W0 := by rw [hW0]; exact ((Grew.refl _).alloc _).alloc _
  have H0 := Lib.hid (And.intro a0 (And.intro a1 hg0))
  rw [numA_lit, numA_zero] at hW0
  clear h hcy hz hy a0 a1 hg0
  go_enter Tryz.func120, Tryz.ntmps120
  go_upto_region 1 with fail
  rw [← hW0]
  clear hW0
  obtain ⟨x0, x1, x2, x3, x4, x5, x6, x7, x8, x9, x10, x11, x12⟩ := num13 H0.out.1
  have f0 := frozen_of_row _ w.heap.size 0 _ _ H0.out.1
  have H1 := Lib.hid (And.intro (grew_setCell H0.out.2.2 (Nat.le_refl w.heap.size) (o := 0) (.bool (!neg))) ((heap_other (w := W0) (off := 0) (v := .bool (!neg)) (show w.heap.size + 1 ≠ w.heap.size by omega)).trans H0.out.2.1))
  go_wp2_with fail
  refine (HCR.out _).mono ?_
  rintro e w3 ⟨n3, D3, rfl, hc3, hg3⟩
  obtain ⟨e0, e1, e2, e3, e4, e5, e6, e7, e8, e9, e10, e11, rfl⟩ := twelve hc3.1
  have p1 := (hg3.1.block _ (heap_ltN H1.out.2)).trans H1.out.2
  have H3 := Lib.hid (And.intro (H1.out.1.trans hg3) p1)
  have HC3 := Lib.hid hc3
  obtain ⟨y0, y1, y2, y3, y4, y5, y6, y7, y8, y9, y10, y11, y12⟩ := num13 p1
  obtain ⟨g0, g1, g2, g3, g4, g5, g6, g7, g8, g9, g10, g11, g12⟩ := fro13 p1
  rw [numA_lit]
  clear hg3 p1 hc3 x0 x1 x2 x3 x4 x5 x6 x7 x8 x9 x10 x11 x12 f0
  go_wp2_with fail
  exact num_end (g := w.heap.size + 1) rfl rfl rfl (Nat.le_succ _) (Lib.hid ⟨H3.out.1, H3.out.2, rfl⟩) HC3 rfl
set_option maxRecDepth 100000 in
set_option maxHeartbeats 4000000 in
theorem Sgn_any (neg : Bool) (D : List Int) (z : Int) (w : World) (h : Canon neg D z) :
    Calls Tryz.prog 121 #[.agg (numA neg D)] w fun e w' => e = .returned (.int .i64 (sgnN z)) ∧ Grew w w' := by
  have hs := sgn_canon h
  have hzz := fun w => zero_any neg D w h.1 (fun d hd => (h.2.1 d hd).1)
  obtain ⟨y, hy⟩ : ∃ y, y = sgnN z := ⟨_, rfl⟩
  rw [← hy] at hs ⊢
  obtain ⟨q, hq⟩ : ∃ q, q = decide (valD D = 0) := ⟨_, rfl⟩
  rw [← hq] at hzz
  obtain ⟨d0, d1, d2, d3, d4, d5, d6, d7, d8, d9, d10, d11, rfl⟩ := twelve h.1
  have HZ := Lib.hid hzz
  rw [numA_lit] at HZ ⊢
  have hA : Grew w (w.alloc (.cells (numA neg [d0, d1, d2, d3, d4, d5, d6, d7, d8, d9, d10, d11]) 138)) := (Grew.refl _).alloc _
  have hrow := alloc_new w (.cells (numA neg [d0, d1, d2, d3, d4, d5, d6, d7, d8, d9, d10, d11]) 138)
  have HA := Lib.hid (And.intro hA hrow)
  clear hA hrow h hzz hy
  cases q with
  | true =>
    have hy0 : y = 0 := by rw [hs, if_pos (of_decide_eq_true hq.symm)]
    subst hy0
    clear hs hq
    go_enter Tryz.func121, Tryz.ntmps121
    go_wp2_with fail
    refine (HZ.out _).mono ?_
    rintro e w1 ⟨rfl, hg1⟩
    have H1 := Lib.hid (HA.out.1.trans hg1)
    clear hg1
    go_wp2_with fail
    go_ret
    exact ⟨rfl, H1.out⟩
  | false =>
    rw [if_neg (of_decide_eq_false hq.symm)] at hs
    clear hq
    cases neg with
    | true =>
      rw [if_pos rfl] at hs
      subst hs
      go_enter Tryz.func121, Tryz.ntmps121
      go_wp2_with fail
      refine (HZ.out _).mono ?_
      rintro e w1 ⟨rfl, hg1⟩
      have c0 := num_sign ((hg1.1.block _ (heap_ltN HA.out.2)).trans HA.out.2)
      have H1 := Lib.hid (HA.out.1.trans hg1)
      clear hg1
      go_wp2_with fail
      go_ret
      exact ⟨rfl, H1.out⟩
    | false =>
      rw [if_neg (by decide)] at hs
      subst hs
      go_enter Tryz.func121, Tryz.ntmps121
      go_wp2_with fail
      refine (HZ.out _).mono ?_
      rintro e w1 ⟨rfl, hg1⟩
      have c0 := num_sign ((hg1.1.block _ (heap_ltN HA.out.2)).trans HA.out.2)
      have H1 := Lib.hid (HA.out.1.trans hg1)
      clear hg1
      go_wp2_with fail
      go_ret
      exact ⟨rfl, H1.out⟩
end Go.Proofs.YtgijaaklhdcgeaaGreat

/- the document's numbers: size -/
set_option linter.unusedSimpArgs false
set_option linter.unusedVariables false
namespace Go.Proofs.YtgijaaklhdcgeaaGreat
open Go.RowKit Go.Geo
attribute [local go_sem] Oper.semAt_some
def sizeZ (a b : Int) : Int := if a < b then -1 else if a = b then 0 else 1
set_option maxRecDepth 100000 in
set_option maxHeartbeats 4000000 in
theorem size_num (n1 : Bool) (D : List Int) (n2 : Bool) (E : List Int) (w : World) (hD : Digits D) (hE : Digits E) (h1 : D.length = 12) (h2 : E.length = 12) :
    Calls Tryz.prog 128 #[.agg (numA n1 D), .agg (numA n2 E)] w fun e w' => e = .returned (.int .i64 (sizeZ (valD D) (valD E))) ∧ Grew w w' := by
  obtain ⟨z, hz⟩ : ∃ z, z = sizeZ (valD D) (valD E) := ⟨_, rfl⟩
  rw [← hz]
  have HZ := Lib.hid hz
  have HD := Lib.hid (And.intro hD (And.intro hE (And.intro h1 h2)))
  obtain ⟨W0, hW0⟩ : ∃ W, W = (w.alloc (.cells (numA n1 D) 138)).alloc (.cells (numA n2 E) 138) := ⟨_, rfl⟩
  have a0 : W0.heap[w.heap.size]? = some (.cells (numA n1 D) 138 (0, 0)) := by rw [hW0]; exact (Below.heap_alloc _ _ _ (by simp)).trans (alloc_new _ _)
  have a1 : W0.heap[w.heap.size + 1]? = some (.cells (numA n2 E) 138 (0, 0)) := by rw [hW0]; exact alloc_new2 _ _ _
  have hg0 : Grew w W0 := by rw [hW0]; exact ((Grew.refl _).alloc _).alloc _
  have H0 := Lib.hid (And.intro a0 (And.intro a1 hg0))
  clear hD hE h1 h2 hz a0 a1 hg0
  go_enter Tryz.func128, Tryz.ntmps128
  go_wp2_with fail
  rw [← hW0]
  clear hW0
  go_loopw [5] (fun i wr => ∃ k : Nat, k ≤ 12 ∧ i = .int .i64 ((k : Int) - 1) ∧ Hid (D.drop k = E.drop k) ∧ Hid (Grew W0 wr)) (fun i _ => (intOf i + 1).toNat)
  case atStart => exact ⟨12, by omega, rfl, Lib.hid (by rw [List.drop_of_length_le (by rw [HD.out.2.2.1]; exact Nat.le_refl _), List.drop_of_length_le (by rw [HD.out.2.2.2]; exact Nat.le_refl _)]), Grew.refl _⟩
  case round =>
    obtain ⟨k, hk, rfl, hq, hb⟩ := hrel
    match k with
    | 0 =>
      have HE : Hid (z = 0) := Lib.hid (by
        have := hq.out
        rw [List.drop_zero, List.drop_zero] at this
        rw [HZ.out, this]; unfold sizeZ; rw [if_neg (by omega), if_pos rfl])
      go_wp2_with fail
      go_ret
      exact ⟨by rw [HE.out]; rfl, H0.out.2.2.trans hb.out⟩
    | k + 1 =>
      have hkk : ((k + 1 : Nat) : Int) - 1 = (k : Int) := by omega
      rw [hkk]
      have hk0 : (0 : Int) ≤ (k : Int) := by omega
      have hk5 : (k : Int) < 12 := by omega
      have b0 := (hb.out.1.block _ (heap_ltN H0.out.1)).trans H0.out.1
      have b1 := (hb.out.1.block _ (heap_ltN H0.out.2.1)).trans H0.out.2.1
      have e0 := num_cell b0 (i := k) (by rw [HD.out.2.2.1]; omega)
      have e1 := num_cell b1 (i := k) (by rw [HD.out.2.2.2]; omega)
      obtain ⟨x, hx⟩ : ∃ x, x = D.getD k 0 := ⟨_, rfl⟩
      obtain ⟨y, hy⟩ : ∃ x, x = E.getD k 0 := ⟨_, rfl⟩
      rw [← hx] at e0
      rw [← hy] at e1
      have HXY := Lib.hid (And.intro hx hy)
      have hdD := drop_get (D := D) (i := k) (by rw [HD.out.2.2.1]; omega)
      have hdE := drop_get (D := E) (i := k) (by rw [HD.out.2.2.2]; omega)
      rw [← hx] at hdD
      rw [← hy] at hdE
      have HDR := Lib.hid (And.intro hdD hdE)
      have hk9 : k < 12 := by omega
      clear hx hy b0 b1 hdD hdE hkk
      by_cases hxy : x = y
      · subst hxy
        go_wp2_with fail
        go_region
        go_wp2_with fail
        go_roundw
        case rel =>
          refine ⟨k, by omega, rfl, Lib.hid ?_, Lib.hid (hb.out.drew)⟩
          rw [HDR.out.1, HDR.out.2, hq.out]
        case measure => simp [intOf]
      · have t1 : (x == y) = false := by simp [hxy]
        have t2 : (x != y) = true := by simp [hxy]
        have HNE := Lib.hid hxy
        clear hxy
        by_cases hlt : x < y
        · have t3 : decide (x < y) = true := decide_eq_true hlt
          have HE : Hid (z = -1) := Lib.hid (by
            have := valD_less HD.out.1 HD.out.2.1 (by rw [HD.out.2.2.1, HD.out.2.2.2]) (i := k) (by rw [HD.out.2.2.1]; omega) hq.out (by rw [← HXY.out.1, ← HXY.out.2]; exact hlt)
            rw [HZ.out]; unfold sizeZ; rw [if_pos this])
          clear hlt
          go_wp2_with fail
          go_region
          go_wp2_with fail
          go_region
          go_wp2_with fail
          change bodyPost Tryz.prog Tryz.f128 (fun e w' => e = .returned (.int .i64 z) ∧ Grew w w') .ret _ _
          go_ret
          exact ⟨by rw [HE.out]; rfl, H0.out.2.2.trans (hb.out.drew.drew)⟩
        · have t3 : decide (x < y) = false := decide_eq_false hlt
          have HE : Hid (z = 1) := Lib.hid (by
            have := valD_less HD.out.2.1 HD.out.1 (by rw [HD.out.2.2.1, HD.out.2.2.2]) (i := k) (by rw [HD.out.2.2.2]; omega) hq.out.symm (by rw [← HXY.out.1, ← HXY.out.2]; have := HNE.out; omega)
            rw [HZ.out]; unfold sizeZ; rw [if_neg (by omega), if_neg (by omega)])
          clear hlt
          go_wp2_with fail
          go_region
          go_wp2_with fail
          go_region
          go_wp2_with fail
          change bodyPost Tryz.prog Tryz.f128 (fun e w' => e = .returned (.int .i64 z) ∧ Grew w w') .ret _ _
          go_ret
          exact ⟨by rw [HE.out]; rfl, H0.out.2.2.trans (hb.out.drew.drew)⟩
end Go.Proofs.YtgijaaklhdcgeaaGreat

/- the document's numbers: Mul -/
set_option linter.unusedSimpArgs false
set_option linter.unusedVariables false
namespace Go.Proofs.YtgijaaklhdcgeaaGreat
open Go.RowKit Go.Geo
attribute [local go_sem] Oper.semAt_some
/-- three numbers' cells, one behind the other. -/
theorem num_row4 (w : World) (a b c d : Array Value) (t : TypeId) : ((((w.alloc (.cells a t)).alloc (.cells b t)).alloc (.cells c t)).alloc (.cells d t)).heap[w.heap.size]? = some (.cells a t (0, 0)) ∧ ((((w.alloc (.cells a t)).alloc (.cells b t)).alloc (.cells c t)).alloc (.cells d t)).heap[w.heap.size + 1]? = some (.cells b t (0, 0)) ∧ ((((w.alloc (.cells a t)).alloc (.cells b t)).alloc (.cells c t)).alloc (.cells d t)).heap[w.heap.size + 1 + 1]? = some (.cells c t (0, 0)) ∧ ((((w.alloc (.cells a t)).alloc (.cells b t)).alloc (.cells c t)).alloc (.cells d t)).heap[w.heap.size + 1 + 1 + 1]? = some (.cells d t (0, 0)) := by
  refine ⟨?_, ?_, ?_, ?_⟩
  · exact (Below.heap_alloc _ _ _ (by simp only [World.size_alloc]; omega)).trans ((Below.heap_alloc _ _ _ (by simp only [World.size_alloc]; omega)).trans ((Below.heap_alloc _ _ _ (by simp)).trans (alloc_new _ _)))
  · exact (Below.heap_alloc _ _ _ (by simp only [World.size_alloc]; omega)).trans ((Below.heap_alloc _ _ _ (by simp only [World.size_alloc]; omega)).trans (alloc_new2 _ _ _))
  · have := alloc_new2 (w.alloc (.cells a t)) (.cells b t) (.cells c t)
    exact (Below.heap_alloc _ _ _ (by simp only [World.size_alloc]; omega)).trans (by simpa using this)
  · have := alloc_new2 ((w.alloc (.cells a t)).alloc (.cells b t)) (.cells c t) (.cells d t)
    simpa using this
theorem mul_val {n1 n2 : Bool} {X Y D : List Int} {x y : Int} (hx : Canon n1 X x) (hy : Canon n2 Y y) (f1 : Four X) (f2 : Four Y) (h : MulTo 4 0 X Y D) : Carry 0 (valD X * valD Y) D ∧ valD X * valD Y < 65536 ^ 12 ∧ x * y = if (n1 != n2) then -(valD X * valD Y) else valD X * valD Y := by
  obtain ⟨h1, h2, h3⟩ := h
  have e1 := f1.val hx.1
  have e2 := f2.val hy.1
  have hv : valD D = valD X * valD Y := by
    rw [h2, e1, e2]
    simp only [List.take_zero, valD, Int.mul_zero, Int.add_zero]
  refine ⟨?_, ?_, ?_⟩
  · rw [← hv]
    refine Carry.start h1 fun d hd => ?_
    obtain ⟨j, hj, rfl⟩ := List.mem_iff_getElem.1 hd
    have := h3 j (by omega)
    rw [List.getD_eq_getElem?_getD, List.getElem?_eq_getElem hj] at this
    simp only [Option.getD_some] at this
    omega
  · have r1 := valD_range (X.take 4) (fun d hd => hx.2.1 d (List.mem_of_mem_take hd))
    have r2 := valD_range (Y.take 4) (fun d hd => hy.2.1 d (List.mem_of_mem_take hd))
    rw [List.length_take, hx.1, e1] at r1
    rw [List.length_take, hy.1, e2] at r2
    have : valD X * valD Y ≤ 65536 ^ 4 * 65536 ^ 4 := Int.mul_le_mul (Int.le_of_lt r1.2) (Int.le_of_lt r2.2) r2.1 (by decide)
    have e : (65536 : Int) ^ 4 * 65536 ^ 4 < 65536 ^ 12 := by decide
    omega
  · rw [hx.2.2.1, hy.2.2.1]
    unfold numZ
    cases n1 <;> cases n2 <;> simp [Int.mul_neg, Int.neg_mul]
set_option maxRecDepth 100000 in
set_option maxHeartbeats 4000000 in
theorem Mul_num (n1 n2 : Bool) (D E : List Int) (x y : Int) (w : World) (hx : Canon n1 D x) (hy : Canon n2 E y) (f1 : Four D) (f2 : Four E) :
    Calls Tryz.prog 118 #[.agg (numA n1 D), .agg (numA n2 E)] w (NumR (x * y) w) := by
  have HX := Lib.hid (And.intro hx (And.intro hy (And.intro f1 f2)))
  obtain ⟨z, hz⟩ : ∃ z, z = x * y := ⟨_, rfl⟩
  rw [← hz]
  have HZ := Lib.hid hz
  obtain ⟨q, hq⟩ : ∃ q, q = (n1 != n2) := ⟨_, rfl⟩
  have HQ := Lib.hid hq
  have HCR := Lib.hid (fun F w h hv hzz => carried_any q F (valD D * valD E) z w h hv hzz)
  obtain ⟨W0, hW0⟩ : ∃ W, W = (((w.alloc (.cells (numA n1 D) 138)).alloc (.cells (numA n2 E) 138)).alloc (.cells (numA false [0,0,0,0,0,0,0,0,0,0,0,0]) 138)).alloc (.cells (numA q [0,0,0,0,0,0,0,0,0,0,0,0]) 138) := ⟨_, rfl⟩
  have hr4 := num_row4 w (numA n1 D) (numA n2 E) (numA false [0,0,0,0,0,0,0,0,0,0,0,0]) (numA q [0,0,0,0,0,0,0,0,0,0,0,0]) 138
  rw [← hW0] at hr4
  have hg0 : Grew w W0 := by rw [hW0]; exact ((((Grew.refl _).alloc _).alloc _).alloc _).alloc _
  have H0 := Lib.hid (And.intro hr4.1 (And.intro hr4.2.1 (And.intro hr4.2.2.1 (And.intro hr4.2.2.2 hg0))))
  simp only [numA_lit] at hW0
  have hs1 : (w.alloc (.cells (numA n1 D) 138)).heap[w.heap.size]? = _ := alloc_new _ _
  clear hx hy f1 f2 hz hr4 hg0 hs1
  have n1g : (numA n1 D)[0]? = some (.bool n1) := by simp [numA]
  have n2g : (numA n2 E)[0]? = some (.bool n2) := by simp [numA]
  have hbn : ∀ w, (binOp .neq 4 (.bool n1) (.bool n2)).run Tryz.prog w = .ok (.bool q) w := fun w => by rw [hq]; cases n1 <;> cases n2 <;> rfl
  clear hq
  go_enter Tryz.func118, Tryz.ntmps118
  go_wp2_with fail
  have e0 : numA false [0,0,0,0,0,0,0,0,0,0,0,0] = #[.bool false, .int .i64 0, .int .i64 0, .int .i64 0, .int .i64 0, .int .i64 0, .int .i64 0, .int .i64 0, .int .i64 0, .int .i64 0, .int .i64 0, .int .i64 0, .int .i64 0] := rfl
  try rw [← hW0]
  have HW0 := Lib.hid hW0
  clear hW0 n1g n2g hbn e0
  go_loopw [6] (fun i wr => ∃ k : Nat, k ≤ 4 ∧ i = .int .i64 k ∧ ∃ F, Hid (MulTo k 0 D E F ∧ wr.heap[w.heap.size]? = some (.cells (numA n1 D) 138 (0, 0)) ∧ wr.heap[w.heap.size + 1]? = some (.cells (numA n2 E) 138 (0, 0)) ∧ wr.heap[w.heap.size + 1 + 1]? = some (.cells (numA false [0,0,0,0,0,0,0,0,0,0,0,0]) 138 (0, 0)) ∧ wr.heap[w.heap.size + 1 + 1 + 1]? = some (.cells (numA q F) 138 (0, 0)) ∧ Grew w wr)) (fun i _ => 4 - (intOf i).toNat)
  case atStart => exact ⟨0, by omega, rfl, [0,0,0,0,0,0,0,0,0,0,0,0], Lib.hid ⟨MulTo.start D E, H0.out.1, H0.out.2.1, H0.out.2.2.1, H0.out.2.2.2.1, H0.out.2.2.2.2⟩⟩
  case round =>
    obtain ⟨i, hi, rfl, F, hr⟩ := hrel
    by_cases hlt : i < 4
    · have hi0 : (0 : Int) ≤ (i : Int) := by omega
      have hi5 : (i : Int) < 4 := by omega
      go_wp2_with fail
      go_loopw [7] (fun j wi => ∃ k : Nat, k ≤ 4 ∧ j = .int .i64 k ∧ ∃ F, Hid (MulTo i k D E F ∧ wi.heap[w.heap.size]? = some (.cells (numA n1 D) 138 (0, 0)) ∧ wi.heap[w.heap.size + 1]? = some (.cells (numA n2 E) 138 (0, 0)) ∧ wi.heap[w.heap.size + 1 + 1]? = some (.cells (numA false [0,0,0,0,0,0,0,0,0,0,0,0]) 138 (0, 0)) ∧ wi.heap[w.heap.size + 1 + 1 + 1]? = some (.cells (numA q F) 138 (0, 0)) ∧ Grew w wi)) (fun j _ => 4 - (intOf j).toNat)
      case atStart => exact ⟨0, by omega, rfl, F, hr⟩
      case round =>
        clear hr F
        obtain ⟨k, hk, rfl, F, hr⟩ := hrel
        by_cases hlt2 : k < 4
        · have hk0 : (0 : Int) ≤ (k : Int) := by omega
          have hk5 : (k : Int) < 4 := by omega
          have hik : (i : Int) + (k : Int) < 12 := by omega
          have hik0 : (0 : Int) ≤ (i : Int) + (k : Int) := by omega
          have hi12 : (i : Int) < 12 := by omega
          have hk12 : (k : Int) < 12 := by omega
          have x0 := num_cell hr.out.2.1 (i := i) (by rw [HX.out.1.1]; omega)
          have y0 := num_cell hr.out.2.2.1 (i := k) (by rw [HX.out.2.1.1]; omega)
          have z0 := num_cell hr.out.2.2.2.2.1 (i := i + k) (by rw [hr.out.1.1]; omega)
          have f0 := frozen_of_row _ (w.heap.size + 1 + 1 + 1) (1 + (i + k)) _ _ hr.out.2.2.2.2.1
          have rx := HX.out.1.2.1 _ (getD_mem (D := D) (i := i) (by rw [HX.out.1.1]; omega))
          have ry := HX.out.2.1.2.1 _ (getD_mem (D := E) (i := k) (by rw [HX.out.2.1.1]; omega))
          have rz := hr.out.1.2.2 (i + k) (by omega)
          have hst := hr.out.1.step HX.out.1.2.1 HX.out.2.1.2.1 HX.out.1.1 HX.out.2.1.1 hlt hlt2
          obtain ⟨x, hx⟩ : ∃ x, x = D.getD i 0 := ⟨_, rfl⟩
          obtain ⟨y, hy⟩ : ∃ x, x = E.getD k 0 := ⟨_, rfl⟩
          obtain ⟨v, hv⟩ : ∃ x, x = F.getD (i + k) 0 := ⟨_, rfl⟩
          rw [← hx] at x0 rx hst
          rw [← hy] at y0 ry hst
          rw [← hv] at z0 rz hst
          obtain ⟨rx1, rx2⟩ := rx
          obtain ⟨ry1, ry2⟩ := ry
          obtain ⟨rz1, rz2⟩ := rz
          have rz3 : v ≤ 68719476736 := by omega
          have m0 : 0 ≤ x * y := Int.mul_nonneg rx1 ry1
          have m1 : x * y ≤ 65535 * 65535 := Int.mul_le_mul (by omega) (by omega) ry1 (by decide)
          have m2 : x * y ≤ 4294836225 := m1
          have HST := Lib.hid hst
          have s1 : IntKind.i64.wrap (x * y) = x * y := IntWalk.i64_in _ (by omega)
          have s2 : IntKind.i64.wrap (v + x * y) = v + x * y := IntWalk.i64_in _ (by omega)
          have s3 : ((i : Int) + (k : Int)).toNat = i + k := by omega
          clear hx hy hv hst rz2 m1
          go_wp2_with fail
          go_region
          go_wp2_with fail
          go_roundw
          case rel =>
            refine ⟨k + 1, by omega, by go_num, _, Lib.hid ⟨HST.out, ?_, ?_, ?_, num_put hr.out.2.2.2.2.1 (i + k) (v + x * y), ?_⟩⟩
            · exact (heap_other (by omega)).trans hr.out.2.1
            · exact (heap_other (by omega)).trans hr.out.2.2.1
            · exact (heap_other (by omega)).trans hr.out.2.2.2.1
            · exact (grew_setCell hr.out.2.2.2.2.2 (by omega) _).drew
          case measure => simp [intOf]; omega
        · obtain rfl : k = 4 := by omega
          go_wp2_with fail
          refine ⟨⟨i + 1, by omega, by go_num, F, Lib.hid ⟨hr.out.1.next HX.out.1.1 hlt, hr.out.2⟩⟩, by simp [intOf]; omega⟩
    · obtain rfl : i = 4 := by omega
      have hmv := mul_val HX.out.1 HX.out.2.1 HX.out.2.2.1 HX.out.2.2.2 hr.out.1
      have hcr := fun w => HCR.out F w hmv.1 hmv.2.1 (by rw [HZ.out, hmv.2.2, ← HQ.out])
      obtain ⟨d0, d1, d2, d3, d4, d5, d6, d7, d8, d9, d10, d11, rfl⟩ := twelve hr.out.1.1
      obtain ⟨x0, x1, x2, x3, x4, x5, x6, x7, x8, x9, x10, x11, x12⟩ := num13 hr.out.2.2.2.2.1
      rw [numA_lit] at hcr
      have HC := Lib.hid hcr
      clear hmv hcr
      go_wp2_with fail
      refine (HC.out _).mono ?_
      rintro e w3 ⟨n3, D3, rfl, hc3, hg3⟩
      obtain ⟨e0, e1, e2, e3, e4, e5, e6, e7, e8, e9, e10, e11, rfl⟩ := twelve hc3.1
      have p1 := (hg3.1.block _ (heap_ltN hr.out.2.2.2.1)).trans hr.out.2.2.2.1
      have H3 := Lib.hid (And.intro (hr.out.2.2.2.2.2.trans hg3) p1)
      have HC3 := Lib.hid hc3
      obtain ⟨y0, y1, y2, y3, y4, y5, y6, y7, y8, y9, y10, y11, y12⟩ := num13 p1
      obtain ⟨g0, g1, g2, g3, g4, g5, g6, g7, g8, g9, g10, g11, g12⟩ := fro13 p1
      rw [numA_lit]
      clear hg3 p1 hc3 x0 x1 x2 x3 x4 x5 x6 x7 x8 x9 x10 x11 x12
      go_wp2_with fail
      exact num_end (g := w.heap.size + 1 + 1) rfl rfl rfl (by omega) (Lib.hid ⟨H3.out.1, H3.out.2, rfl⟩) HC3 rfl
end Go.Proofs.YtgijaaklhdcgeaaGreat
