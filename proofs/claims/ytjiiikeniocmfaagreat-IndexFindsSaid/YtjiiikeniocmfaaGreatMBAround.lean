/- boxtree: a tree in memory; the order of a level (printed by mkcmp12.py) -/
import Derived.Test.YtjiiikeniocmfaaGreatMRegT
import Derived.Test.YtjiiikeniocmfaaGreatMQCont
import Derived.Lib.MinMax
set_option linter.unusedSimpArgs false
set_option linter.unusedVariables false
namespace Go.Proofs.YtjiiikeniocmfaaGreat
open Go.RowKit Go.Geo
attribute [local go_sem] Oper.semAt_some
/-- the struct of a tree. -/
def TreeRow (w : World) (g : Nat) (lv ov nv : Value) : Prop := w.heap[g]? = some (.cells #[.bool true, lv, ov, nv] 88 (0, 0))
theorem TreeRow.cell {w : World} {g : Nat} {lv ov nv : Value} (h : TreeRow w g lv ov nv) : w.cell? ⟨g, 0, none⟩ = some (.bool true) ∧ w.cell? ⟨g, 1, none⟩ = some lv ∧ w.cell? ⟨g, 2, none⟩ = some ov ∧ w.cell? ⟨g, 3, none⟩ = some nv :=
  ⟨cell_of_row _ _ _ _ _ _ h, cell_of_row _ _ _ _ _ _ h, cell_of_row _ _ _ _ _ _ h, cell_of_row _ _ _ _ _ _ h⟩
theorem heap_lt2 {w : World} {j : Nat} {o : Obj} (h : w.heap[j]? = some o) : j < w.heap.size := (Array.getElem?_eq_some_iff.1 h).1
theorem TreeRow.later {w w' : World} {g : Nat} {lv ov nv : Value} (h : TreeRow w g lv ov nv) (hb : Below w.heap.size w w') : TreeRow w' g lv ov nv := (hb.block g (heap_lt2 h)).trans h
/-- the order of a level, told. -/
def ordI (L : List Bx) (ac : Bool) (x y : Int) : Int := if cmpZ (keyB ac (bxI L x)) (keyB ac (bxI L y)) = 0 then cmpZ x y else cmpZ (keyB ac (bxI L x)) (keyB ac (bxI L y))
theorem ordI_lt {L : List Bx} {ac : Bool} {x y : Int} : ordI L ac x y < 0 ↔ ltI L ac x y := by
  unfold ordI ltI
  split
  · rename_i h
    rw [cmpZ_zero] at h
    rw [cmpZ_lt]
    omega
  · rename_i h
    rw [cmpZ_zero] at h
    rw [cmpZ_lt]
    omega
/-- boxes of numbers that may be. -/
def InB (L : List Bx) : Prop := ∀ b ∈ L, InI b.1.x ∧ InI b.1.y ∧ InI b.2.x ∧ InI b.2.y
theorem InB.get {L : List Bx} (h : InB L) {i : Nat} (hi : i < L.length) : InI (L.getD i bx0).1.x ∧ InI (L.getD i bx0).1.y ∧ InI (L.getD i bx0).2.x ∧ InI (L.getD i bx0).2.y := by
  apply h
  rw [List.getD_eq_getElem?_getD, List.getElem?_eq_getElem hi]
  exact List.getElem_mem hi
set_option maxRecDepth 100000 in
set_option maxHeartbeats 4000000 in
theorem ordB_any (la : Option Addr) (n lc : Nat) (L : List Bx) (ov nv : Value) (g tb ab : Nat) (ac : Bool) (p q : Nat) (w : World) (h : IsX w la n lc L) (hin : InB L) (hrow : TreeRow w g (.slice la n lc) ov nv) (ht : w.cell? ⟨tb, 0, none⟩ = some (.pointer (some ⟨g, 0, none⟩))) (ha : w.cell? ⟨ab, 0, none⟩ = some (.bool ac)) (hp : p < n) (hq : q < n) :
    Calls Tryz.prog 76 #[.int .i64 (p : Int), .int .i64 (q : Int), .pointer (some ⟨tb, 0, none⟩), .pointer (some ⟨ab, 0, none⟩)] w fun e w' => e = .returned (.int .i64 (ordI L ac (p : Int) (q : Int))) ∧ Grew w w' := by
  obtain ⟨b, off, rfl, d0, d1, d2, d3⟩ := h.at hp
  obtain ⟨b', off', e', e0, e1, e2, e3⟩ := h.at hq
  cases e'
  have hcm := h.2.2.1
  have hnc := h.2.1
  unfold maxLen at hcm
  obtain ⟨c1, c2, _, _⟩ := hrow.cell
  have hx := hin.get (i := p) (by rw [h.1]; exact hp)
  have hy := hin.get (i := q) (by rw [h.1]; exact hq)
  obtain ⟨x1, hx1⟩ : ∃ x, x = L.getD p bx0 := ⟨_, rfl⟩
  obtain ⟨y1, hy1⟩ : ∃ x, x = L.getD q bx0 := ⟨_, rfl⟩
  rw [← hx1] at hx d0 d1 d2 d3
  rw [← hy1] at hy e0 e1 e2 e3
  have hr : ordI L ac (p : Int) (q : Int) = if cmpZ (keyB ac x1) (keyB ac y1) = 0 then cmpZ (p : Int) (q : Int) else cmpZ (keyB ac x1) (keyB ac y1) := by
    unfold ordI bxI
    rw [Int.toNat_natCast, Int.toNat_natCast, ← hx1, ← hy1]
  have HPQ : Hid ((0 : Int) ≤ (p : Int) ∧ (p : Int) < (n : Int) ∧ (0 : Int) ≤ (q : Int) ∧ (q : Int) < (n : Int)) := Lib.hid ⟨by omega, by omega, by omega, by omega⟩
  have HCE : Hid (∀ wX, Grew w wX → wX.cell? ⟨tb, 0, none⟩ = some (.pointer (some ⟨g, 0, none⟩)) ∧ wX.cell? ⟨ab, 0, none⟩ = some (.bool ac) ∧ wX.cell? ⟨g, 1, none⟩ = some (.slice (some ⟨b, off, none⟩) n lc) ∧ wX.cell? ⟨b, off + p * 4, none⟩ = some (.int .i64 x1.1.x) ∧ wX.cell? ⟨b, off + p * 4 + 1, none⟩ = some (.int .i64 x1.1.y) ∧ wX.cell? ⟨b, off + p * 4 + 2, none⟩ = some (.int .i64 x1.2.x) ∧ wX.cell? ⟨b, off + p * 4 + 3, none⟩ = some (.int .i64 x1.2.y) ∧ wX.cell? ⟨b, off + q * 4, none⟩ = some (.int .i64 y1.1.x) ∧ wX.cell? ⟨b, off + q * 4 + 1, none⟩ = some (.int .i64 y1.1.y) ∧ wX.cell? ⟨b, off + q * 4 + 2, none⟩ = some (.int .i64 y1.2.x) ∧ wX.cell? ⟨b, off + q * 4 + 3, none⟩ = some (.int .i64 y1.2.y)) := Lib.hid (fun wX hX => ⟨hX.cell ht, hX.cell ha, hX.cell c2, hX.cell d0, hX.cell d1, hX.cell d2, hX.cell d3, hX.cell e0, hX.cell e1, hX.cell e2, hX.cell e3⟩)
  have HSX := Lib.hid (sums_any x1.1.x x1.2.x y1.1.x y1.2.x hx.1 hx.2.2.1 hy.1 hy.2.2.1)
  have HSY := Lib.hid (sums_any x1.1.y x1.2.y y1.1.y y1.2.y hx.2.1 hx.2.2.2 hy.2.1 hy.2.2.2)
  have HPC := Lib.hid (cmpInt_any (p : Int) (q : Int))
  obtain ⟨r, hrr⟩ : ∃ r, r = ordI L ac (p : Int) (q : Int) := ⟨_, rfl⟩
  rw [← hrr] at hr ⊢
  have HR := Lib.hid hr
  clear h hin hrow c1 c2 hx hy hx1 hy1 hr hrr hp hq ht ha d0 d1 d2 d3 e0 e1 e2 e3
  go_enter Tryz.func76, Tryz.ntmps76
  go_wp2_with fail
  refine wp_region_J (s := [(9, 0), (10, 1), (11, 2), (12, 3), (13, 4), (14, 5), (15, 6), (16, 7), (17, 8), (18, 9), (19, 10), (20, 11), (21, 12), (22, 13), (7, 14), (8, 15)]) (by kernel_rfl) (StdT w (fun iX => match iX with | 0 => some (.pointer (some ⟨g, 0, none⟩)) | 1 => some (.pointer (some ⟨g, 0, none⟩)) | 2 => some (.pointer (some ⟨g, 1, none⟩)) | 3 => some (.slice (some ⟨b, off, none⟩) n lc) | 4 => some (.int .i64 (p : Int)) | 5 => some (.pointer (some ⟨b, off + p * 4, none⟩)) | 6 => some (.agg #[.int .i64 x1.1.x, .int .i64 x1.1.y, .int .i64 x1.2.x, .int .i64 x1.2.y]) | 7 => some (.pointer (some ⟨g, 0, none⟩)) | 8 => some (.pointer (some ⟨g, 0, none⟩)) | 9 => some (.pointer (some ⟨g, 1, none⟩)) | 10 => some (.slice (some ⟨b, off, none⟩) n lc) | 11 => some (.int .i64 (q : Int)) | 12 => some (.pointer (some ⟨b, off + q * 4, none⟩)) | 13 => some (.agg #[.int .i64 y1.1.x, .int .i64 y1.1.y, .int .i64 y1.2.x, .int .i64 y1.2.y]) | _ => none) [⟨14, 16, 66, #[.int .i64 0, .int .i64 0, .int .i64 0, .int .i64 0], #[.int .i64 x1.1.x, .int .i64 x1.1.y, .int .i64 x1.2.x, .int .i64 x1.2.y]⟩, ⟨15, 17, 66, #[.int .i64 0, .int .i64 0, .int .i64 0, .int .i64 0], #[.int .i64 y1.1.x, .int .i64 y1.1.y, .int .i64 y1.2.x, .int .i64 y1.2.y]⟩]) (by kernel_rfl) (by kernel_rfl) (by kernel_rfl) (by kernel_rfl) (fun _ => undef) ?start1 ?step1 ?done1
  case start1 => exact StdT.start ((Grew.refl _).drew)
  case step1 =>
    refine ⟨?o1_0, ?o1_1, ?o1_2, ?o1_3, ?o1_4, ?o1_5, ?o1_6, ?o1_7, ?o1_8, ?o1_9, ?o1_10, ?o1_11, ?o1_12, ?o1_13, ?o1_14, ?o1_15, ?o1_16, ?o1_17, trivial⟩
    case o1_0 =>
      intro LX V aX wX K hl hp hcl hf hJ hK
      have t2 : aX.tmps[2]? = some (.pointer (some ⟨tb, 0, none⟩)) := hf.old (by kernel_rfl) rfl
      obtain ⟨c0, c1, c2, d0, d1, d2, d3, e0, e1, e2, e3⟩ := HCE.out wX hJ.grew
      rw [if_pos (by rfl)]
      go_simp
      exact hK _ _ (hJ.val (Grew.refl _) 0 _ (by kernel_rfl) rfl)
    case o1_1 =>
      intro LX V aX wX K hl hp hcl hf hJ hK
      have t9 := hf.in (i := 0) (d := 9) (by kernel_rfl) (hp 0 (by kernel_rfl)) (hJ.vals 0 _ rfl (hp 0 (by kernel_rfl)))
      rw [if_pos (by rfl)]
      go_simp
      exact hK _ _ (hJ.val (Grew.refl _) 1 _ (by kernel_rfl) rfl)
    case o1_2 =>
      intro LX V aX wX K hl hp hcl hf hJ hK
      have t10 := hf.in (i := 1) (d := 10) (by kernel_rfl) (hp 1 (by kernel_rfl)) (hJ.vals 1 _ rfl (hp 1 (by kernel_rfl)))
      rw [if_pos (by rfl)]
      go_simp
      exact hK _ _ (hJ.val (Grew.refl _) 2 _ (by kernel_rfl) rfl)
    case o1_3 =>
      intro LX V aX wX K hl hp hcl hf hJ hK
      have t11 := hf.in (i := 2) (d := 11) (by kernel_rfl) (hp 2 (by kernel_rfl)) (hJ.vals 2 _ rfl (hp 2 (by kernel_rfl)))
      obtain ⟨c0, c1, c2, d0, d1, d2, d3, e0, e1, e2, e3⟩ := HCE.out wX hJ.grew
      rw [if_pos (by rfl)]
      go_simp
      exact hK _ _ (hJ.val (Grew.refl _) 3 _ (by kernel_rfl) rfl)
    case o1_4 =>
      intro LX V aX wX K hl hp hcl hf hJ hK
      have t0 : aX.tmps[0]? = some (.int .i64 (p : Int)) := hf.old (by kernel_rfl) rfl
      rw [if_pos (by rfl)]
      go_simp
      exact hK _ _ (hJ.val (Grew.refl _) 4 _ (by kernel_rfl) rfl)
    case o1_5 =>
      intro LX V aX wX K hl hp hcl hf hJ hK
      have t12 := hf.in (i := 3) (d := 12) (by kernel_rfl) (hp 3 (by kernel_rfl)) (hJ.vals 3 _ rfl (hp 3 (by kernel_rfl)))
      have t13 := hf.in (i := 4) (d := 13) (by kernel_rfl) (hp 4 (by kernel_rfl)) (hJ.vals 4 _ rfl (hp 4 (by kernel_rfl)))
      obtain ⟨h1, h2, h3, h4⟩ := HPQ.out
      rw [if_pos (by rfl)]
      go_simp
      exact hK _ _ (hJ.val (Grew.refl _) 5 _ (by kernel_rfl) rfl)
    case o1_6 =>
      intro LX V aX wX K hl hp hcl hf hJ hK
      have t14 := hf.in (i := 5) (d := 14) (by kernel_rfl) (hp 5 (by kernel_rfl)) (hJ.vals 5 _ rfl (hp 5 (by kernel_rfl)))
      obtain ⟨c0, c1, c2, d0, d1, d2, d3, e0, e1, e2, e3⟩ := HCE.out wX hJ.grew
      rw [if_pos (by rfl)]
      go_simp
      exact hK _ _ (hJ.val (Grew.refl _) 6 _ (by kernel_rfl) rfl)
    case o1_7 =>
      intro LX V aX wX K hl hp hcl hf hJ hK
      have t2 : aX.tmps[2]? = some (.pointer (some ⟨tb, 0, none⟩)) := hf.old (by kernel_rfl) rfl
      obtain ⟨c0, c1, c2, d0, d1, d2, d3, e0, e1, e2, e3⟩ := HCE.out wX hJ.grew
      rw [if_pos (by rfl)]
      go_simp
      exact hK _ _ (hJ.val (Grew.refl _) 7 _ (by kernel_rfl) rfl)
    case o1_8 =>
      intro LX V aX wX K hl hp hcl hf hJ hK
      have t16 := hf.in (i := 7) (d := 16) (by kernel_rfl) (hp 7 (by kernel_rfl)) (hJ.vals 7 _ rfl (hp 7 (by kernel_rfl)))
      rw [if_pos (by rfl)]
      go_simp
      exact hK _ _ (hJ.val (Grew.refl _) 8 _ (by kernel_rfl) rfl)
    case o1_9 =>
      intro LX V aX wX K hl hp hcl hf hJ hK
      have t17 := hf.in (i := 8) (d := 17) (by kernel_rfl) (hp 8 (by kernel_rfl)) (hJ.vals 8 _ rfl (hp 8 (by kernel_rfl)))
      rw [if_pos (by rfl)]
      go_simp
      exact hK _ _ (hJ.val (Grew.refl _) 9 _ (by kernel_rfl) rfl)
    case o1_10 =>
      intro LX V aX wX K hl hp hcl hf hJ hK
      have t18 := hf.in (i := 9) (d := 18) (by kernel_rfl) (hp 9 (by kernel_rfl)) (hJ.vals 9 _ rfl (hp 9 (by kernel_rfl)))
      obtain ⟨c0, c1, c2, d0, d1, d2, d3, e0, e1, e2, e3⟩ := HCE.out wX hJ.grew
      rw [if_pos (by rfl)]
      go_simp
      exact hK _ _ (hJ.val (Grew.refl _) 10 _ (by kernel_rfl) rfl)
    case o1_11 =>
      intro LX V aX wX K hl hp hcl hf hJ hK
      have t1 : aX.tmps[1]? = some (.int .i64 (q : Int)) := hf.old (by kernel_rfl) rfl
      rw [if_pos (by rfl)]
      go_simp
      exact hK _ _ (hJ.val (Grew.refl _) 11 _ (by kernel_rfl) rfl)
    case o1_12 =>
      intro LX V aX wX K hl hp hcl hf hJ hK
      have t19 := hf.in (i := 10) (d := 19) (by kernel_rfl) (hp 10 (by kernel_rfl)) (hJ.vals 10 _ rfl (hp 10 (by kernel_rfl)))
      have t20 := hf.in (i := 11) (d := 20) (by kernel_rfl) (hp 11 (by kernel_rfl)) (hJ.vals 11 _ rfl (hp 11 (by kernel_rfl)))
      obtain ⟨h1, h2, h3, h4⟩ := HPQ.out
      rw [if_pos (by rfl)]
      go_simp
      exact hK _ _ (hJ.val (Grew.refl _) 12 _ (by kernel_rfl) rfl)
    case o1_13 =>
      intro LX V aX wX K hl hp hcl hf hJ hK
      have t21 := hf.in (i := 12) (d := 21) (by kernel_rfl) (hp 12 (by kernel_rfl)) (hJ.vals 12 _ rfl (hp 12 (by kernel_rfl)))
      obtain ⟨c0, c1, c2, d0, d1, d2, d3, e0, e1, e2, e3⟩ := HCE.out wX hJ.grew
      rw [if_pos (by rfl)]
      go_simp
      exact hK _ _ (hJ.val (Grew.refl _) 13 _ (by kernel_rfl) rfl)
    case o1_14 =>
      intro LX V aX wX K hl hp hcl hf hJ hK
      rw [if_pos (by rfl)]
      go_simp
      exact hK _ _ (hJ.alloc (by kernel_rfl) ⟨14, 16, 66, #[.int .i64 0, .int .i64 0, .int .i64 0, .int .i64 0], #[.int .i64 x1.1.x, .int .i64 x1.1.y, .int .i64 x1.2.x, .int .i64 x1.2.y]⟩ (by simp) hl rfl)
    case o1_15 =>
      intro LX V aX wX K hl hp hcl hf hJ hK
      rw [if_pos (by rfl)]
      go_simp
      exact hK _ _ (hJ.alloc (by kernel_rfl) ⟨15, 17, 66, #[.int .i64 0, .int .i64 0, .int .i64 0, .int .i64 0], #[.int .i64 y1.1.x, .int .i64 y1.1.y, .int .i64 y1.2.x, .int .i64 y1.2.y]⟩ (by simp) hl rfl)
    case o1_16 =>
      intro LX V aX wX K hl hp hcl hf hJ hK
      have t15 := hf.in (i := 6) (d := 15) (by kernel_rfl) (hp 6 (by kernel_rfl)) (hJ.vals 6 _ rfl (hp 6 (by kernel_rfl)))
      rw [if_pos (by rfl)]
      obtain ⟨g, hg, hg2⟩ := hJ.ptr ⟨14, 16, 66, #[.int .i64 0, .int .i64 0, .int .i64 0, .int .i64 0], #[.int .i64 x1.1.x, .int .i64 x1.1.y, .int .i64 x1.2.x, .int .i64 x1.2.y]⟩ (by simp) (hp 14 (by kernel_rfl)) hl
      have tp := hf.in (i := 14) (d := 7) (by kernel_rfl) (hp 14 (by kernel_rfl)) hg
      refine wp_store_row _ _ _ rfl g #[.int .i64 x1.1.x, .int .i64 x1.1.y, .int .i64 x1.2.x, .int .i64 x1.2.y] (by simp [Act.eval, tp]) (by simp [Act.eval, t15]) _ _ hg2 (by kernel_rfl) rfl (by kernel_rfl) ?_
      exact hK _ _ (hJ.fill (by kernel_rfl) ⟨14, 16, 66, #[.int .i64 0, .int .i64 0, .int .i64 0, .int .i64 0], #[.int .i64 x1.1.x, .int .i64 x1.1.y, .int .i64 x1.2.x, .int .i64 x1.2.y]⟩ (by simp) (hp 14 (by kernel_rfl)) hl rfl g hg _)
    case o1_17 =>
      intro LX V aX wX K hl hp hcl hf hJ hK
      have t22 := hf.in (i := 13) (d := 22) (by kernel_rfl) (hp 13 (by kernel_rfl)) (hJ.vals 13 _ rfl (hp 13 (by kernel_rfl)))
      rw [if_pos (by rfl)]
      obtain ⟨g, hg, hg2⟩ := hJ.ptr ⟨15, 17, 66, #[.int .i64 0, .int .i64 0, .int .i64 0, .int .i64 0], #[.int .i64 y1.1.x, .int .i64 y1.1.y, .int .i64 y1.2.x, .int .i64 y1.2.y]⟩ (by simp) (hp 15 (by kernel_rfl)) hl
      have tp := hf.in (i := 15) (d := 8) (by kernel_rfl) (hp 15 (by kernel_rfl)) hg
      refine wp_store_row _ _ _ rfl g #[.int .i64 y1.1.x, .int .i64 y1.1.y, .int .i64 y1.2.x, .int .i64 y1.2.y] (by simp [Act.eval, tp]) (by simp [Act.eval, t22]) _ _ hg2 (by kernel_rfl) rfl (by kernel_rfl) ?_
      exact hK _ _ (hJ.fill (by kernel_rfl) ⟨15, 17, 66, #[.int .i64 0, .int .i64 0, .int .i64 0, .int .i64 0], #[.int .i64 y1.1.x, .int .i64 y1.1.y, .int .i64 y1.2.x, .int .i64 y1.2.y]⟩ (by simp) (hp 15 (by kernel_rfl)) hl rfl g hg _)
  intro V wZ hJ
  obtain ⟨g7, hv7, _, hg7⟩ := hJ.got ⟨14, 16, 66, #[.int .i64 0, .int .i64 0, .int .i64 0, .int .i64 0], #[.int .i64 x1.1.x, .int .i64 x1.1.y, .int .i64 x1.2.x, .int .i64 x1.2.y]⟩ (by simp) (by kernel_rfl) (by kernel_rfl)
  obtain ⟨g8, hv8, _, hg8⟩ := hJ.got ⟨15, 17, 66, #[.int .i64 0, .int .i64 0, .int .i64 0, .int .i64 0], #[.int .i64 y1.1.x, .int .i64 y1.1.y, .int .i64 y1.2.x, .int .i64 y1.2.y]⟩ (by simp) (by kernel_rfl) (by kernel_rfl)
  have HZ := Lib.hid (And.intro hg7 (And.intro hg8 hJ.grew))
  simp only [puts, Act.put, List.setIfInBounds_toArray, List.set_cons_zero, List.set_cons_succ]
  rw [hv7, hv8]
  clear hJ hv7 hv8 hg7 hg8
  have HR7 := Lib.hid HZ.out.1
  have c7 := fun (o : Nat) => cell_of_row wZ g7 o _ _ _ HZ.out.1
  have c8 := fun (o : Nat) => cell_of_row wZ g8 o _ _ _ HZ.out.2.1
  have x0 := c7 0
  have x1' := c7 1
  have x2 := c7 2
  have x3 := c7 3
  have y0 := c8 0
  have y1' := c8 1
  have y2 := c8 2
  have y3 := c8 3
  simp at x0 x1' x2 x3 y0 y1' y2 y3
  obtain ⟨_, ha, _⟩ := HCE.out wZ HZ.out.2.2
  clear c7 c8
  cases ac with
  | true =>
    have HK : Hid (r = if cmpZ (x1.1.x + x1.2.x) (y1.1.x + y1.2.x) = 0 then cmpZ (p : Int) (q : Int) else cmpZ (x1.1.x + x1.2.x) (y1.1.x + y1.2.x)) := HR
    obtain ⟨k, hk⟩ : ∃ k, k = cmpZ (x1.1.x + x1.2.x) (y1.1.x + y1.2.x) := ⟨_, rfl⟩
    obtain ⟨m, hm⟩ : ∃ m, m = cmpZ (p : Int) (q : Int) := ⟨_, rfl⟩
    rw [← hk] at HSX HK
    rw [← hm] at HPC HK
    clear hk hm HSY
    go_wp2_with fail
    refine (HSX.out _).mono ?_
    rintro e w1 ⟨rfl, hg1⟩
    have HG1 := Lib.hid (HZ.out.2.2.trans hg1)
    clear hg1
    go_wp2_with fail
    refine (HPC.out _).mono ?_
    rintro e w2 ⟨rfl, rfl⟩
    have HO : Hid (∀ (g : Nat) (w : World), w.cell? ⟨g, 0, none⟩ = some (.int .i64 k) → w.cell? ⟨g, 1, none⟩ = some (.int .i64 m) → Calls Tryz.prog 77 #[.slice (some ⟨g, 0, none⟩) 2 2] w fun e w' => e = .returned (.int .i64 r) ∧ w = w') := Lib.hid (fun g w h1 h2 => by rw [HK.out]; exact or_any g k m w h1 h2)
    clear HK
    go_wp2_with fail
    refine (HO.out _ _ (cell_of_row _ _ _ _ _ _ (alloc_new _ _)) (cell_of_row _ _ _ _ _ _ (alloc_new _ _))).mono ?_
    rintro e w' ⟨rfl, rfl⟩
    go_wp2_with fail
    go_ret
    exact ⟨rfl, HG1.out.alloc _⟩
  | false =>
    have HK : Hid (r = if cmpZ (x1.1.y + x1.2.y) (y1.1.y + y1.2.y) = 0 then cmpZ (p : Int) (q : Int) else cmpZ (x1.1.y + x1.2.y) (y1.1.y + y1.2.y)) := HR
    obtain ⟨k, hk⟩ : ∃ k, k = cmpZ (x1.1.y + x1.2.y) (y1.1.y + y1.2.y) := ⟨_, rfl⟩
    obtain ⟨m, hm⟩ : ∃ m, m = cmpZ (p : Int) (q : Int) := ⟨_, rfl⟩
    rw [← hk] at HSY HK
    rw [← hm] at HPC HK
    clear hk hm HSX
    go_wp2_with fail
    refine (HSY.out _).mono ?_
    rintro e w1 ⟨rfl, hg1⟩
    have HG1 := Lib.hid (HZ.out.2.2.trans hg1)
    clear hg1
    go_wp2_with fail
    refine (HPC.out _).mono ?_
    rintro e w2 ⟨rfl, rfl⟩
    have HO : Hid (∀ (g : Nat) (w : World), w.cell? ⟨g, 0, none⟩ = some (.int .i64 k) → w.cell? ⟨g, 1, none⟩ = some (.int .i64 m) → Calls Tryz.prog 77 #[.slice (some ⟨g, 0, none⟩) 2 2] w fun e w' => e = .returned (.int .i64 r) ∧ w = w') := Lib.hid (fun g w h1 h2 => by rw [HK.out]; exact or_any g k m w h1 h2)
    clear HK
    go_wp2_with fail
    refine (HO.out _ _ (cell_of_row _ _ _ _ _ _ (alloc_new _ _)) (cell_of_row _ _ _ _ _ _ (alloc_new _ _))).mono ?_
    rintro e w' ⟨rfl, rfl⟩
    go_wp2_with fail
    go_ret
    exact ⟨rfl, HG1.out.alloc _⟩
end Go.Proofs.YtjiiikeniocmfaaGreat

/- boxtree: a box around a part (printed by mkaround12.py) -/
set_option linter.unusedSimpArgs false
set_option linter.unusedVariables false
namespace Go.Proofs.YtjiiikeniocmfaaGreat
open Go.RowKit Go.Geo
attribute [local go_sem] Oper.semAt_some
def growB (c b : Bx) : Bx := (⟨min c.1.x b.1.x, min c.1.y b.1.y⟩, ⟨max c.2.x b.2.x, max c.2.y b.2.y⟩)
theorem growB_self (c : Bx) : growB c c = c := by unfold growB; simp
theorem growB_left (c b : Bx) : Within c (growB c b) := by unfold Within growB; simp only; omega
theorem growB_right (c b : Bx) : Within b (growB c b) := by unfold Within growB; simp only; omega
theorem within_trans {a b c : Bx} (h : Within a b) (k : Within b c) : Within a c := by unfold Within at *; omega
def foldB (L : List Bx) (p : List Int) (c : Bx) : Bx := p.foldl (fun c x => growB c (bxI L x)) c
theorem foldB_from (L : List Bx) : ∀ (p : List Int) (c : Bx), Within c (foldB L p c)
  | [], c => Within.refl c
  | x :: p, c => within_trans (growB_left c _) (foldB_from L p _)
theorem foldB_around (L : List Bx) : ∀ (p : List Int) (c : Bx), Around L p (foldB L p c)
  | [], c, x, hx => by cases hx
  | y :: p, c, x, hx => by
    rcases List.mem_cons.1 hx with rfl | hx
    · exact within_trans (growB_right c _) (foldB_from L p _)
    · exact foldB_around L p _ x hx
theorem foldB_take {L : List Bx} {p : List Int} {c : Bx} {k : Nat} (h : k < p.length) : foldB L (p.take (k + 1)) c = growB (foldB L (p.take k) c) (bxI L (p.getD k 0)) := by
  unfold foldB
  rw [List.take_succ_eq_append_getElem h, List.foldl_append, List.getD_eq_getElem?_getD, List.getElem?_eq_getElem h]
  rfl
theorem seg_getD {O : List Int} {f t k : Nat} (h : k < t - f) : (seg O f t).getD k 0 = O.getD (f + k) 0 := by
  unfold seg
  rw [List.getD_eq_getElem?_getD, List.getD_eq_getElem?_getD, List.getElem?_take, if_pos h, List.getElem?_drop]
def bxRow (c : Bx) : Array Value := boxRow c.1.x c.1.y c.2.x c.2.y
def AroundR (L : List Bx) (O : List Int) (f t : Nat) (w : World) (e : Ending) (w' : World) : Prop := ∃ B : Bx, e = .returned (boxV B.1 B.2) ∧ Around L (seg O f t) B ∧ (t = f + 1 → B = bxI L (O.getD f 0)) ∧ Below w.heap.size w w'
set_option maxRecDepth 100000 in
set_option maxHeartbeats 4000000 in
theorem around_any (la : Option Addr) (n lc : Nat) (L : List Bx) (oa : Option Addr) (no oc : Nat) (O : List Int) (nv : Value) (g f t : Nat) (w : World) (h : IsX w la n lc L) (hO : IsInts w oa no oc O) (hrow : TreeRow w g (.slice la n lc) (.slice oa no oc) nv) (hft : f < t) (hto : t ≤ no) (hmem : ∀ x ∈ O, 0 ≤ x ∧ x < n) :
    Calls Tryz.prog 74 #[.pointer (some ⟨g, 0, none⟩), .int .i64 (f : Int), .int .i64 (t : Int)] w (AroundR L O f t w) := by
  obtain ⟨W0, hW0⟩ : ∃ W, W = w.alloc (.cells #[.int .i64 0, .int .i64 0, .int .i64 0, .int .i64 0] 66) := ⟨_, rfl⟩
  have hb0 : Below w.heap.size w W0 := by rw [hW0]; exact (Below.refl _ _).alloc (Nat.le_refl _) _
  obtain ⟨g6, hg6⟩ : ∃ g, g = w.heap.size := ⟨_, rfl⟩
  have hr6 : W0.heap[g6]? = some (.cells (boxRow 0 0 0 0) 66 (0, 0)) := by rw [hW0, hg6]; exact alloc_new _ _
  have HR6 := Lib.hid hr6
  have HB0 := Lib.hid hb0
  have HG6 := Lib.hid hg6
  have hcm := h.2.2.1
  have hnc := h.2.1
  have hocm := hO.2.2.1
  have hnoc := hO.2.1
  unfold maxLen at hcm hocm
  have HL := Lib.hid hO.1
  have HXW := Lib.hid (fun wX (hX : Below W0.heap.size W0 wX) => (h.later hb0 (Nat.le_refl _)).later hX (Nat.le_refl _))
  have HOW := Lib.hid (fun wX (hX : Below W0.heap.size W0 wX) => (hO.later hb0 (Nat.le_refl _)).later hX (Nat.le_refl _))
  have HRW := Lib.hid (fun wX (hX : Below W0.heap.size W0 wX) => (hrow.later hb0).later hX)
  have hom : ∀ k, k < no → ∃ p : Nat, O.getD k 0 = (p : Int) ∧ p < n := fun k hk => by
    have hm := hmem (O.getD k 0) (by rw [List.getD_eq_getElem?_getD, List.getElem?_eq_getElem (by rw [hO.1]; exact hk)]; exact List.getElem_mem _)
    exact ⟨(O.getD k 0).toNat, by omega, by omega⟩
  have HOM := Lib.hid hom
  obtain ⟨p, hp, hpn⟩ := hom f (by omega)
  obtain ⟨b, off, rfl, d0, d1, d2, d3⟩ := (HXW.out W0 (Below.refl _ _)).at hpn
  obtain ⟨bo, oo, rfl, e0⟩ := (HOW.out W0 (Below.refl _ _)).at (i := f) (by omega)
  obtain ⟨_, c1, c2, _⟩ := (HRW.out W0 (Below.refl _ _)).cell
  obtain ⟨x0, hx0⟩ : ∃ x, x = L.getD p bx0 := ⟨_, rfl⟩
  have HX0 : Hid (bxI L (O.getD f 0) = x0) := Lib.hid (by rw [hp, hx0]; rfl)
  rw [← hx0] at d0 d1 d2 d3
  rw [hp] at e0
  have HPQ : Hid ((0 : Int) ≤ (f : Int) ∧ (f : Int) < (no : Int) ∧ (0 : Int) ≤ (p : Int) ∧ (p : Int) < (n : Int)) := Lib.hid ⟨by omega, by omega, by omega, by omega⟩
  have hk' : ∀ {wX : World} {q o : Nat} {v : Value}, Below W0.heap.size W0 wX → W0.cell? ⟨q, o, none⟩ = some v → wX.cell? ⟨q, o, none⟩ = some v := fun hX hc => (hX.cell (p := ⟨_, _, none⟩) (block_lt_of_cell hc)).trans hc
  have HCE : Hid (∀ wX, Below W0.heap.size W0 wX → wX.cell? ⟨g, 1, none⟩ = some (.slice (some ⟨b, off, none⟩) n lc) ∧ wX.cell? ⟨g, 2, none⟩ = some (.slice (some ⟨bo, oo, none⟩) no oc) ∧ wX.cell? ⟨b, off + p * 4, none⟩ = some (.int .i64 x0.1.x) ∧ wX.cell? ⟨b, off + p * 4 + 1, none⟩ = some (.int .i64 x0.1.y) ∧ wX.cell? ⟨b, off + p * 4 + 2, none⟩ = some (.int .i64 x0.2.x) ∧ wX.cell? ⟨b, off + p * 4 + 3, none⟩ = some (.int .i64 x0.2.y) ∧ wX.cell? ⟨bo, oo + f, none⟩ = some (.int .i64 (p : Int))) := Lib.hid (fun wX hX => ⟨hk' hX c1, hk' hX c2, hk' hX d0, hk' hX d1, hk' hX d2, hk' hX d3, hk' hX e0⟩)
  clear h hO hrow hmem hom hx0 hp hpn d0 d1 d2 d3 e0 c1 c2 hk' hr6 hb0
  go_enter Tryz.func74, Tryz.ntmps74
  go_wp2_with fail
  rw [← hW0, ← hg6]
  clear hW0 hg6
  refine wp_region_J (s := [(11, 0), (12, 1), (13, 2), (14, 3), (15, 4), (16, 5), (17, 6), (18, 7), (19, 8), (20, 9), (21, 10), (22, 11), (23, 12), (7, 13)]) (by kernel_rfl) (StdJ W0 (fun iX => match iX with | 0 => some (.pointer (some ⟨g, 0, none⟩)) | 1 => some (.pointer (some ⟨g, 0, none⟩)) | 2 => some (.pointer (some ⟨g, 1, none⟩)) | 3 => some (.slice (some ⟨b, off, none⟩) n lc) | 4 => some (.pointer (some ⟨g, 0, none⟩)) | 5 => some (.pointer (some ⟨g, 0, none⟩)) | 6 => some (.pointer (some ⟨g, 2, none⟩)) | 7 => some (.slice (some ⟨bo, oo, none⟩) no oc) | 8 => some (.int .i64 (f : Int)) | 9 => some (.pointer (some ⟨bo, oo + f, none⟩)) | 10 => some (.int .i64 (p : Int)) | 11 => some (.pointer (some ⟨b, off + p * 4, none⟩)) | 12 => some (.agg #[.int .i64 x0.1.x, .int .i64 x0.1.y, .int .i64 x0.2.x, .int .i64 x0.2.y]) | _ => none) [⟨13, 14, 66, #[.int .i64 0, .int .i64 0, .int .i64 0, .int .i64 0], #[.int .i64 x0.1.x, .int .i64 x0.1.y, .int .i64 x0.2.x, .int .i64 x0.2.y]⟩]) (by kernel_rfl) (by kernel_rfl) (by kernel_rfl) (by kernel_rfl) (fun _ => undef) ?start1 ?step1 ?done1
  case start1 => exact StdJ.start ((Below.refl _ _).drew)
  case step1 =>
    refine ⟨?o1_0, ?o1_1, ?o1_2, ?o1_3, ?o1_4, ?o1_5, ?o1_6, ?o1_7, ?o1_8, ?o1_9, ?o1_10, ?o1_11, ?o1_12, ?o1_13, ?o1_14, trivial⟩
    case o1_0 =>
      intro LX V aX wX K hl hp hcl hf hJ hK
      have t0 : aX.tmps[0]? = some (.pointer (some ⟨g, 0, none⟩)) := hf.old (by kernel_rfl) rfl
      rw [if_pos (by rfl)]
      go_simp
      exact hK _ _ (hJ.val (Below.refl _ _) 0 _ (by kernel_rfl) rfl)
    case o1_1 =>
      intro LX V aX wX K hl hp hcl hf hJ hK
      have t11 := hf.in (i := 0) (d := 11) (by kernel_rfl) (hp 0 (by kernel_rfl)) (hJ.vals 0 _ rfl (hp 0 (by kernel_rfl)))
      rw [if_pos (by rfl)]
      go_simp
      exact hK _ _ (hJ.val (Below.refl _ _) 1 _ (by kernel_rfl) rfl)
    case o1_2 =>
      intro LX V aX wX K hl hp hcl hf hJ hK
      have t12 := hf.in (i := 1) (d := 12) (by kernel_rfl) (hp 1 (by kernel_rfl)) (hJ.vals 1 _ rfl (hp 1 (by kernel_rfl)))
      rw [if_pos (by rfl)]
      go_simp
      exact hK _ _ (hJ.val (Below.refl _ _) 2 _ (by kernel_rfl) rfl)
    case o1_3 =>
      intro LX V aX wX K hl hp hcl hf hJ hK
      have t13 := hf.in (i := 2) (d := 13) (by kernel_rfl) (hp 2 (by kernel_rfl)) (hJ.vals 2 _ rfl (hp 2 (by kernel_rfl)))
      obtain ⟨c1, c2, d0, d1, d2, d3, e0⟩ := HCE.out wX hJ.below
      rw [if_pos (by rfl)]
      go_simp
      exact hK _ _ (hJ.val (Below.refl _ _) 3 _ (by kernel_rfl) rfl)
    case o1_4 =>
      intro LX V aX wX K hl hp hcl hf hJ hK
      have t0 : aX.tmps[0]? = some (.pointer (some ⟨g, 0, none⟩)) := hf.old (by kernel_rfl) rfl
      rw [if_pos (by rfl)]
      go_simp
      exact hK _ _ (hJ.val (Below.refl _ _) 4 _ (by kernel_rfl) rfl)
    case o1_5 =>
      intro LX V aX wX K hl hp hcl hf hJ hK
      have t15 := hf.in (i := 4) (d := 15) (by kernel_rfl) (hp 4 (by kernel_rfl)) (hJ.vals 4 _ rfl (hp 4 (by kernel_rfl)))
      rw [if_pos (by rfl)]
      go_simp
      exact hK _ _ (hJ.val (Below.refl _ _) 5 _ (by kernel_rfl) rfl)
    case o1_6 =>
      intro LX V aX wX K hl hp hcl hf hJ hK
      have t16 := hf.in (i := 5) (d := 16) (by kernel_rfl) (hp 5 (by kernel_rfl)) (hJ.vals 5 _ rfl (hp 5 (by kernel_rfl)))
      rw [if_pos (by rfl)]
      go_simp
      exact hK _ _ (hJ.val (Below.refl _ _) 6 _ (by kernel_rfl) rfl)
    case o1_7 =>
      intro LX V aX wX K hl hp hcl hf hJ hK
      have t17 := hf.in (i := 6) (d := 17) (by kernel_rfl) (hp 6 (by kernel_rfl)) (hJ.vals 6 _ rfl (hp 6 (by kernel_rfl)))
      obtain ⟨c1, c2, d0, d1, d2, d3, e0⟩ := HCE.out wX hJ.below
      rw [if_pos (by rfl)]
      go_simp
      exact hK _ _ (hJ.val (Below.refl _ _) 7 _ (by kernel_rfl) rfl)
    case o1_8 =>
      intro LX V aX wX K hl hp hcl hf hJ hK
      have t1 : aX.tmps[1]? = some (.int .i64 (f : Int)) := hf.old (by kernel_rfl) rfl
      rw [if_pos (by rfl)]
      go_simp
      exact hK _ _ (hJ.val (Below.refl _ _) 8 _ (by kernel_rfl) rfl)
    case o1_9 =>
      intro LX V aX wX K hl hp hcl hf hJ hK
      have t18 := hf.in (i := 7) (d := 18) (by kernel_rfl) (hp 7 (by kernel_rfl)) (hJ.vals 7 _ rfl (hp 7 (by kernel_rfl)))
      have t19 := hf.in (i := 8) (d := 19) (by kernel_rfl) (hp 8 (by kernel_rfl)) (hJ.vals 8 _ rfl (hp 8 (by kernel_rfl)))
      obtain ⟨h1, h2, h3, h4⟩ := HPQ.out
      rw [if_pos (by rfl)]
      go_simp
      exact hK _ _ (hJ.val (Below.refl _ _) 9 _ (by kernel_rfl) rfl)
    case o1_10 =>
      intro LX V aX wX K hl hp hcl hf hJ hK
      have t20 := hf.in (i := 9) (d := 20) (by kernel_rfl) (hp 9 (by kernel_rfl)) (hJ.vals 9 _ rfl (hp 9 (by kernel_rfl)))
      obtain ⟨c1, c2, d0, d1, d2, d3, e0⟩ := HCE.out wX hJ.below
      rw [if_pos (by rfl)]
      go_simp
      exact hK _ _ (hJ.val (Below.refl _ _) 10 _ (by kernel_rfl) rfl)
    case o1_11 =>
      intro LX V aX wX K hl hp hcl hf hJ hK
      have t14 := hf.in (i := 3) (d := 14) (by kernel_rfl) (hp 3 (by kernel_rfl)) (hJ.vals 3 _ rfl (hp 3 (by kernel_rfl)))
      have t21 := hf.in (i := 10) (d := 21) (by kernel_rfl) (hp 10 (by kernel_rfl)) (hJ.vals 10 _ rfl (hp 10 (by kernel_rfl)))
      obtain ⟨h1, h2, h3, h4⟩ := HPQ.out
      rw [if_pos (by rfl)]
      go_simp
      exact hK _ _ (hJ.val (Below.refl _ _) 11 _ (by kernel_rfl) rfl)
    case o1_12 =>
      intro LX V aX wX K hl hp hcl hf hJ hK
      have t22 := hf.in (i := 11) (d := 22) (by kernel_rfl) (hp 11 (by kernel_rfl)) (hJ.vals 11 _ rfl (hp 11 (by kernel_rfl)))
      obtain ⟨c1, c2, d0, d1, d2, d3, e0⟩ := HCE.out wX hJ.below
      rw [if_pos (by rfl)]
      go_simp
      exact hK _ _ (hJ.val (Below.refl _ _) 12 _ (by kernel_rfl) rfl)
    case o1_13 =>
      intro LX V aX wX K hl hp hcl hf hJ hK
      rw [if_pos (by rfl)]
      go_simp
      exact hK _ _ (hJ.alloc (by kernel_rfl) ⟨13, 14, 66, #[.int .i64 0, .int .i64 0, .int .i64 0, .int .i64 0], #[.int .i64 x0.1.x, .int .i64 x0.1.y, .int .i64 x0.2.x, .int .i64 x0.2.y]⟩ (by simp) hl rfl)
    case o1_14 =>
      intro LX V aX wX K hl hp hcl hf hJ hK
      have t23 := hf.in (i := 12) (d := 23) (by kernel_rfl) (hp 12 (by kernel_rfl)) (hJ.vals 12 _ rfl (hp 12 (by kernel_rfl)))
      rw [if_pos (by rfl)]
      obtain ⟨g, hg, hg2⟩ := hJ.ptr ⟨13, 14, 66, #[.int .i64 0, .int .i64 0, .int .i64 0, .int .i64 0], #[.int .i64 x0.1.x, .int .i64 x0.1.y, .int .i64 x0.2.x, .int .i64 x0.2.y]⟩ (by simp) (hp 13 (by kernel_rfl)) hl
      have tp := hf.in (i := 13) (d := 7) (by kernel_rfl) (hp 13 (by kernel_rfl)) hg
      refine wp_store_row _ _ _ rfl g #[.int .i64 x0.1.x, .int .i64 x0.1.y, .int .i64 x0.2.x, .int .i64 x0.2.y] (by simp [Act.eval, tp]) (by simp [Act.eval, t23]) _ _ hg2 (by kernel_rfl) rfl (by kernel_rfl) ?_
      exact hK _ _ (hJ.fill (by kernel_rfl) ⟨13, 14, 66, #[.int .i64 0, .int .i64 0, .int .i64 0, .int .i64 0], #[.int .i64 x0.1.x, .int .i64 x0.1.y, .int .i64 x0.2.x, .int .i64 x0.2.y]⟩ (by simp) (hp 13 (by kernel_rfl)) hl rfl g hg _)
  intro V wZ hJ
  obtain ⟨g7, hv7, hg70, hg7⟩ := hJ.got ⟨13, 14, 66, #[.int .i64 0, .int .i64 0, .int .i64 0, .int .i64 0], #[.int .i64 x0.1.x, .int .i64 x0.1.y, .int .i64 x0.2.x, .int .i64 x0.2.y]⟩ (by simp) (by kernel_rfl) (by kernel_rfl)
  have HZ := Lib.hid (And.intro hg7 (And.intro hg70 hJ.below))
  simp only [puts, Act.put, List.setIfInBounds_toArray, List.set_cons_zero, List.set_cons_succ]
  rw [hv7]
  clear hJ hv7 hg7 hg70
  obtain ⟨c1, c2, _⟩ := HCE.out wZ HZ.out.2.2
  obtain ⟨m, hm⟩ : ∃ m, t = f + m := ⟨t - f, by omega⟩
  subst hm
  have hm1 : 0 < m := by omega
  have hft0 : (0 : Int) ≤ (f : Int) := by omega
  have hft1 : (f : Int) ≤ (f : Int) + (m : Int) := by omega
  have hft3 : (f : Int) ≤ ((f + m : Nat) : Int) := by omega
  have hft2 : ((f + m : Nat) : Int) ≤ (oc : Int) := by omega
  have hft4 : (f : Int) + (m : Int) ≤ (oc : Int) := by omega
  have HTO := Lib.hid hto
  clear hft hto
  go_wp2_with fail
  go_loopw [32] (fun i wr => ∃ k : Nat, k ≤ m ∧ i = .int .i64 k ∧ Hid (wr.heap[g7]? = some (.cells (bxRow (foldB L ((seg O f (f + m)).take k) x0)) 66 (0, 0)) ∧ Below W0.heap.size W0 wr)) (fun i _ => m - (intOf i).toNat)
  case atStart => exact ⟨0, by omega, rfl, Lib.hid ⟨HZ.out.1, HZ.out.2.2⟩⟩
  case round =>
    obtain ⟨k, hk, rfl, hst⟩ := hrel
    clear c1 c2
    obtain ⟨c1, c2, _⟩ := HCE.out wr hst.out.2
    by_cases hkm : k < m
    · have hk0 : (0 : Int) ≤ (k : Int) := by omega
      have hk5 : (k : Int) < (m : Int) := by omega
      have hwk : IntKind.i64.wrap ((k : Int) + 1) = (k : Int) + 1 := IntWalk.i64_in _ (by omega)
      obtain ⟨q, hq, hqn⟩ := HOM.out (f + k) (by have := HTO.out; omega)
      have hq0 : (0 : Int) ≤ (q : Int) := by omega
      have hq5 : (q : Int) < (n : Int) := by omega
      obtain ⟨b', off', e', d0, d1, d2, d3⟩ := (HXW.out wr hst.out.2).at hqn
      cases e'
      obtain ⟨b', off', e', e0⟩ := (HOW.out wr hst.out.2).at (i := f + k) (by have := HTO.out; omega)
      cases e'
      obtain ⟨y1, hy1⟩ : ∃ x, x = L.getD q bx0 := ⟨_, rfl⟩
      rw [← hy1] at d0 d1 d2 d3
      rw [hq, ← Nat.add_assoc] at e0
      obtain ⟨c, hc⟩ : ∃ c, c = foldB L ((seg O f (f + m)).take k) x0 := ⟨_, rfl⟩
      have hnx : foldB L ((seg O f (f + m)).take (k + 1)) x0 = growB c y1 := by
        rw [foldB_take (by rw [seg_length (by rw [HL.out]; exact HTO.out)]; omega), ← hc, seg_getD (by omega), hq, hy1]
        rfl
      have HNX := Lib.hid hnx
      have hrow := hst.out.1
      rw [← hc] at hrow
      have HB := Lib.hid hst.out.2
      obtain ⟨WA, hWA⟩ : ∃ W, W = wr.alloc (.cells #[.int .i64 y1.1.x, .int .i64 y1.1.y, .int .i64 y1.2.x, .int .i64 y1.2.y] 66) := ⟨_, rfl⟩
      obtain ⟨gA, hgA⟩ : ∃ g, g = wr.heap.size := ⟨_, rfl⟩
      have hbA : Below wr.heap.size wr WA := by rw [hWA]; exact (Below.refl _ _).alloc (Nat.le_refl _) _
      have hA : WA.heap[gA]? = some (.cells (boxRow y1.1.x y1.1.y y1.2.x y1.2.y) 66 (0, 0)) := by rw [hWA, hgA]; exact alloc_new _ _
      have hA7 : WA.heap[g7]? = some (.cells (boxRow c.1.x c.1.y c.2.x c.2.y) 66 (0, 0)) := (hbA.block _ (heap_lt2 hrow)).trans hrow
      have hne : g7 ≠ gA := by have := heap_lt2 hrow; omega
      obtain ⟨a0, a1, a2, a3⟩ := box_cells hA
      obtain ⟨x0', x1', x2', x3'⟩ := box_cells hA7
      obtain ⟨f0, f1, _, _⟩ := box_frozen hA7
      obtain ⟨m1, hm1⟩ : ∃ x, min c.1.x y1.1.x = x := ⟨_, rfl⟩
      obtain ⟨m2, hm2⟩ : ∃ x, min c.1.y y1.1.y = x := ⟨_, rfl⟩
      obtain ⟨m3, hm3⟩ : ∃ x, max c.2.x y1.2.x = x := ⟨_, rfl⟩
      obtain ⟨m4, hm4⟩ : ∃ x, max c.2.y y1.2.y = x := ⟨_, rfl⟩
      have HGR : Hid (growB c y1 = (⟨m1, m2⟩, ⟨m3, m4⟩)) := Lib.hid (by unfold growB; rw [hm1, hm2, hm3, hm4])
      obtain ⟨WB, hWB⟩ : ∃ W, W = (WA.setCell ⟨g7, 0, none⟩ (.int .i64 m1)).setCell ⟨g7, 1, none⟩ (.int .i64 m2) := ⟨_, rfl⟩
      have hB7 : WB.heap[g7]? = some (.cells (boxRow m1 m2 c.2.x c.2.y) 66 (0, 0)) := by rw [hWB]; exact put1 (put0 hA7 m1) m2
      have hBA : WB.heap[gA]? = some (.cells (boxRow y1.1.x y1.1.y y1.2.x y1.2.y) 66 (0, 0)) := by rw [hWB, heap_other (Ne.symm hne), heap_other (Ne.symm hne)]; exact hA
      have hbB : Below W0.heap.size W0 WB := by rw [hWB]; exact ((HB.out.trans (hbA.mono HB.out.size)).setCell (p := ⟨g7, 0, none⟩) HZ.out.2.1 _).setCell (p := ⟨g7, 1, none⟩) HZ.out.2.1 _
      obtain ⟨_, _, u2, u3⟩ := box_cells hB7
      obtain ⟨_, _, v2, v3⟩ := box_cells hBA
      obtain ⟨_, _, f2, f3⟩ := box_frozen hB7
      have hB7' := And.intro hB7 hbB
      rw [hWB, hWA] at hB7'
      have HB7 := Lib.hid hB7'
      rw [hWB] at u2 u3 v2 v3 f2 f3
      rw [hWA] at a0 a1 a2 a3 x0' x1' x2' x3' f0 f1 u2 u3 v2 v3 f2 f3
      rw [hgA] at a0 a1 a2 a3 v2 v3
      clear hst hq hc hnx hrow hA hA7 hB7 hB7' hBA hbB hy1 hbA
      go_wp2_with fail
      go_roundw
      case rel => exact ⟨k + 1, by omega, by go_num, Lib.hid ⟨by rw [HNX.out, HGR.out]; exact put3 (put2 HB7.out.1 m3) m4, (HB7.out.2.setCell (p := ⟨g7, 2, none⟩) HZ.out.2.1 _).setCell (p := ⟨g7, 3, none⟩) HZ.out.2.1 _⟩⟩
      case measure => simp [intOf]; omega
    · have hkm2 : m = k := by omega
      subst hkm2
      have hk5 : ¬ (m : Int) < (m : Int) := by omega
      have hfin := hst.out.1
      rw [List.take_of_length_le (by rw [seg_length (by rw [HL.out]; exact HTO.out)]; omega)] at hfin
      obtain ⟨c, hc⟩ : ∃ c, c = foldB L (seg O f (f + m)) x0 := ⟨_, rfl⟩
      rw [← hc] at hfin
      have HC := Lib.hid hc
      obtain ⟨x0', x1', x2', x3'⟩ := box_cells hfin
      have hr6 := (hst.out.2.block g6 (by have := heap_lt2 HR6.out; omega)).trans HR6.out
      have HR7 := Lib.hid hr6
      obtain ⟨z0, z1, z2, z3⟩ := box_cells hr6
      obtain ⟨f0, f1, f2, f3⟩ := box_frozen hr6
      have HBE := Lib.hid hst.out.2
      clear hc hfin hr6 hst
      go_wp2_with fail
      have hput : ((((wr.setCell ⟨g6, 0, none⟩ (.int .i64 c.1.x)).setCell ⟨g6, 1, none⟩ (.int .i64 c.1.y)).setCell ⟨g6, 2, none⟩ (.int .i64 c.2.x)).setCell ⟨g6, 3, none⟩ (.int .i64 c.2.y)).heap[g6]? = some (.cells #[.int .i64 c.1.x, .int .i64 c.1.y, .int .i64 c.2.x, .int .i64 c.2.y] 66 (0, 0)) := put3 (put2 (put1 (put0 HR7.out _) _) _) _
      refine bodyPost_ret (results_cell_row rfl _ _ _ _ _ _ _ rfl hput Tryz.underlying66 rfl (by kernel_rfl)) rfl ⟨c, rfl, by rw [HC.out]; exact foldB_around _ _ _, fun hm => ?_, ?_⟩
      · have hm : m = 1 := by omega
        subst hm
        rw [HC.out, seg_one (by rw [HL.out]; have := HTO.out; omega), HX0.out]
        show growB x0 (bxI L (O.getD f 0)) = x0
        rw [HX0.out, growB_self]
      · exact ((((HB0.out.trans (HBE.out.mono HB0.out.size)).setCell (p := ⟨g6, 0, none⟩) (by rw [HG6.out]; exact Nat.le_refl _) _).setCell (p := ⟨g6, 1, none⟩) (by rw [HG6.out]; exact Nat.le_refl _) _).setCell (p := ⟨g6, 2, none⟩) (by rw [HG6.out]; exact Nat.le_refl _) _).setCell (p := ⟨g6, 3, none⟩) (by rw [HG6.out]; exact Nat.le_refl _) _
end Go.Proofs.YtjiiikeniocmfaaGreat
