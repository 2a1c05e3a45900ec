/- boxtree: a tree in memory; the order of a level (printed by mkcmp12.py) -/
import Derived.Test.YtjiiikeniocmfaaGreatMRegT
import Derived.Test.YtjiiikeniocmfaaGreatMQCont
set_option linter.unusedSimpArgs false
set_option linter.unusedVariables false
namespace Go.Proofs.YtjiiikeniocmfaaGreat
open Go.RowKit Go.Geo
attribute [local go_sem] Oper.semAt_some
/-- the struct of a tree. -/
def TreeRow (w : World) (g : Nat) (lv ov nv : Value) : Prop := w.heap[g]? = some (.cells #[.bool true, lv, ov, nv] 88 (0, 0))
theorem TreeRow.cell {w : World} {g : Nat} {lv ov nv : Value} (h : TreeRow w g lv ov nv) : w.cell? ⟨g, 0, none⟩ = some (.bool true) ∧ w.cell? ⟨g, 1, none⟩ = some lv ∧ w.cell? ⟨g, 2, none⟩ = some ov ∧ w.cell? ⟨g, 3, none⟩ = some nv :=
  ⟨cell_of_row _ _ _ _ _ _ h, cell_of_row _ _ _ _ _ _ h, cell_of_row _ _ _ _ _ _ h, cell_of_row _ _ _ _ _ _ h⟩
theorem heap_lt2 {w : World} {j : Nat} {o : Obj} (h : w.heap[j]? = some o) : j < w.heap.size := (Array.getElem?_eq_some_iff.1 h).1
theorem TreeRow.later {w w' : World} {g : Nat} {lv ov nv : Value} (h : TreeRow w g lv ov nv) (hb : Below w.heap.size w w') : TreeRow w' g lv ov nv := (hb.block g (heap_lt2 h)).trans h
/-- the order of a level, told. -/
def ordI (L : List Bx) (ac : Bool) (x y : Int) : Int := if cmpZ (keyB ac (bxI L x)) (keyB ac (bxI L y)) = 0 then cmpZ x y else cmpZ (keyB ac (bxI L x)) (keyB ac (bxI L y))
theorem ordI_lt {L : List Bx} {ac : Bool} {x y : Int} : ordI L ac x y < 0 ↔ ltI L ac x y := by
  unfold ordI ltI
  split
  · rename_i h
    rw [cmpZ_zero] at h
    rw [cmpZ_lt]
    omega
  · rename_i h
    rw [cmpZ_zero] at h
    rw [cmpZ_lt]
    omega
/-- boxes of numbers that may be. -/
def InB (L : List Bx) : Prop := ∀ b ∈ L, InI b.1.x ∧ InI b.1.y ∧ InI b.2.x ∧ InI b.2.y
theorem InB.get {L : List Bx} (h : InB L) {i : Nat} (hi : i < L.length) : InI (L.getD i bx0).1.x ∧ InI (L.getD i bx0).1.y ∧ InI (L.getD i bx0).2.x ∧ InI (L.getD i bx0).2.y := by
  apply h
  rw [List.getD_eq_getElem?_getD, List.getElem?_eq_getElem hi]
  exact List.getElem_mem hi
set_option maxRecDepth 100000 in
set_option maxHeartbeats 4000000 in
theorem ordB_any (la : Option Addr) (n lc : Nat) (L : List Bx) (ov nv : Value) (g tb ab : Nat) (ac : Bool) (p q : Nat) (w : World) (h : IsX w la n lc L) (hin : InB L) (hrow : TreeRow w g (.slice la n lc) ov nv) (ht : w.cell? ⟨tb, 0, none⟩ = some (.pointer (some ⟨g, 0, none⟩))) (ha : w.cell? ⟨ab, 0, none⟩ = some (.bool ac)) (hp : p < n) (hq : q < n) :
    Calls Tryz.prog 76 #[.int .i64 (p : Int), .int .i64 (q : Int), .pointer (some ⟨tb, 0, none⟩), .pointer (some ⟨ab, 0, none⟩)] w fun e w' => e = .returned (.int .i64 (ordI L ac (p : Int) (q : Int))) ∧ Grew w w' := by
  obtain ⟨b, off, rfl, d0, d1, d2, d3⟩ := h.at hp
  obtain ⟨b', off', e', e0, e1, e2, e3⟩ := h.at hq
  cases e'
  have hcm := h.2.2.1
  have hnc := h.2.1
  unfold maxLen at hcm
  obtain ⟨c1, c2, _, _⟩ := hrow.cell
  have hx := hin.get (i := p) (by rw [h.1]; exact hp)
  have hy := hin.get (i := q) (by rw [h.1]; exact hq)
  obtain ⟨x1, hx1⟩ : ∃ x, x = L.getD p bx0 := ⟨_, rfl⟩
  obtain ⟨y1, hy1⟩ : ∃ x, x = L.getD q bx0 := ⟨_, rfl⟩
  rw [← hx1] at hx d0 d1 d2 d3
  rw [← hy1] at hy e0 e1 e2 e3
  have hr : ordI L ac (p : Int) (q : Int) = if cmpZ (keyB ac x1) (keyB ac y1) = 0 then cmpZ (p : Int) (q : Int) else cmpZ (keyB ac x1) (keyB ac y1) := by
    unfold ordI bxI
    rw [Int.toNat_natCast, Int.toNat_natCast, ← hx1, ← hy1]
  have HPQ : Hid ((0 : Int) ≤ (p : Int) ∧ (p : Int) < (n : Int) ∧ (0 : Int) ≤ (q : Int) ∧ (q : Int) < (n : Int)) := Lib.hid ⟨by omega, by omega, by omega, by omega⟩
  have HCE : Hid (∀ wX, Grew w wX → wX.cell? ⟨tb, 0, none⟩ = some (.pointer (some ⟨g, 0, none⟩)) ∧ wX.cell? ⟨ab, 0, none⟩ = some (.bool ac) ∧ wX.cell? ⟨g, 1, none⟩ = some (.slice (some ⟨b, off, none⟩) n lc) ∧ wX.cell? ⟨b, off + p * 4, none⟩ = some (.int .i64 x1.1.x) ∧ wX.cell? ⟨b, off + p * 4 + 1, none⟩ = some (.int .i64 x1.1.y) ∧ wX.cell? ⟨b, off + p * 4 + 2, none⟩ = some (.int .i64 x1.2.x) ∧ wX.cell? ⟨b, off + p * 4 + 3, none⟩ = some (.int .i64 x1.2.y) ∧ wX.cell? ⟨b, off + q * 4, none⟩ = some (.int .i64 y1.1.x) ∧ wX.cell? ⟨b, off + q * 4 + 1, none⟩ = some (.int .i64 y1.1.y) ∧ wX.cell? ⟨b, off + q * 4 + 2, none⟩ = some (.int .i64 y1.2.x) ∧ wX.cell? ⟨b, off + q * 4 + 3, none⟩ = some (.int .i64 y1.2.y)) := Lib.hid (fun wX hX => ⟨hX.cell ht, hX.cell ha, hX.cell c2, hX.cell d0, hX.cell d1, hX.cell d2, hX.cell d3, hX.cell e0, hX.cell e1, hX.cell e2, hX.cell e3⟩)
  have HSX := Lib.hid (sums_any x1.1.x x1.2.x y1.1.x y1.2.x hx.1 hx.2.2.1 hy.1 hy.2.2.1)
  have HSY := Lib.hid (sums_any x1.1.y x1.2.y y1.1.y y1.2.y hx.2.1 hx.2.2.2 hy.2.1 hy.2.2.2)
  have HPC := Lib.hid (cmpInt_any (p : Int) (q : Int))
  obtain ⟨r, hrr⟩ : ∃ r, r = ordI L ac (p : Int) (q : Int) := ⟨_, rfl⟩
  rw [← hrr] at hr ⊢
  have HR := Lib.hid hr
  clear h hin hrow c1 c2 hx hy hx1 hy1 hr hrr hp hq ht ha d0 d1 d2 d3 e0 e1 e2 e3
  go_enter Tryz.func76, Tryz.ntmps76
  go_wp2_with fail
  refine wp_region_J (s := [(9, 0), (10, 1), (11, 2), (12, 3), (13, 4), (14, 5), (15, 6), (16, 7), (17, 8), (18, 9), (19, 10), (20, 11), (21, 12), (22, 13), (7, 14), (8, 15)]) (by kernel_rfl) (StdT w (fun iX => match iX with | 0 => some (.pointer (some ⟨g, 0, none⟩)) | 1 => some (.pointer (some ⟨g, 0, none⟩)) | 2 => some (.pointer (some ⟨g, 1, none⟩)) | 3 => some (.slice (some ⟨b, off, none⟩) n lc) | 4 => some (.int .i64 (p : Int)) | 5 => some (.pointer (some ⟨b, off + p * 4, none⟩)) | 6 => some (.agg #[.int .i64 x1.1.x, .int .i64 x1.1.y, .int .i64 x1.2.x, .int .i64 x1.2.y]) | 7 => some (.pointer (some ⟨g, 0, none⟩)) | 8 => some (.pointer (some ⟨g, 0, none⟩)) | 9 => some (.pointer (some ⟨g, 1, none⟩)) | 10 => some (.slice (some ⟨b, off, none⟩) n lc) | 11 => some (.int .i64 (q : Int)) | 12 => some (.pointer (some ⟨b, off + q * 4, none⟩)) | 13 => some (.agg #[.int .i64 y1.1.x, .int .i64 y1.1.y, .int .i64 y1.2.x, .int .i64 y1.2.y]) | _ => none) [⟨14, 16, 66, #[.int .i64 0, .int .i64 0, .int .i64 0, .int .i64 0], #[.int .i64 x1.1.x, .int .i64 x1.1.y, .int .i64 x1.2.x, .int .i64 x1.2.y]⟩, ⟨15, 17, 66, #[.int .i64 0, .int .i64 0, .int .i64 0, .int .i64 0], #[.int .i64 y1.1.x, .int .i64 y1.1.y, .int .i64 y1.2.x, .int .i64 y1.2.y]⟩]) (by kernel_rfl) (by kernel_rfl) (by kernel_rfl) (by kernel_rfl) (fun _ => undef) ?start1 ?step1 ?done1
  case start1 => exact StdT.start ((Grew.refl _).drew)
  case step1 =>
    refine ⟨?o1_0, ?o1_1, ?o1_2, ?o1_3, ?o1_4, ?o1_5, ?o1_6, ?o1_7, ?o1_8, ?o1_9, ?o1_10, ?o1_11, ?o1_12, ?o1_13, ?o1_14, ?o1_15, ?o1_16, ?o1_17, trivial⟩
    case o1_0 =>
      intro LX V aX wX K hl hp hcl hf hJ hK
      have t2 : aX.tmps[2]? = some (.pointer (some ⟨tb, 0, none⟩)) := hf.old (by kernel_rfl) rfl
      obtain ⟨c0, c1, c2, d0, d1, d2, d3, e0, e1, e2, e3⟩ := HCE.out wX hJ.grew
      rw [if_pos (by rfl)]
      go_simp
      exact hK _ _ (hJ.val (Grew.refl _) 0 _ (by kernel_rfl) rfl)
    case o1_1 =>
      intro LX V aX wX K hl hp hcl hf hJ hK
      have t9 := hf.in (i := 0) (d := 9) (by kernel_rfl) (hp 0 (by kernel_rfl)) (hJ.vals 0 _ rfl (hp 0 (by kernel_rfl)))
      rw [if_pos (by rfl)]
      go_simp
      exact hK _ _ (hJ.val (Grew.refl _) 1 _ (by kernel_rfl) rfl)
    case o1_2 =>
      intro LX V aX wX K hl hp hcl hf hJ hK
      have t10 := hf.in (i := 1) (d := 10) (by kernel_rfl) (hp 1 (by kernel_rfl)) (hJ.vals 1 _ rfl (hp 1 (by kernel_rfl)))
      rw [if_pos (by rfl)]
      go_simp
      exact hK _ _ (hJ.val (Grew.refl _) 2 _ (by kernel_rfl) rfl)
    case o1_3 =>
      intro LX V aX wX K hl hp hcl hf hJ hK
      have t11 := hf.in (i := 2) (d := 11) (by kernel_rfl) (hp 2 (by kernel_rfl)) (hJ.vals 2 _ rfl (hp 2 (by kernel_rfl)))
      obtain ⟨c0, c1, c2, d0, d1, d2, d3, e0, e1, e2, e3⟩ := HCE.out wX hJ.grew
      rw [if_pos (by rfl)]
      go_simp
      exact hK _ _ (hJ.val (Grew.refl _) 3 _ (by kernel_rfl) rfl)
    case o1_4 =>
      intro LX V aX wX K hl hp hcl hf hJ hK
      have t0 : aX.tmps[0]? = some (.int .i64 (p : Int)) := hf.old (by kernel_rfl) rfl
      rw [if_pos (by rfl)]
      go_simp
      exact hK _ _ (hJ.val (Grew.refl _) 4 _ (by kernel_rfl) rfl)
    case o1_5 =>
      intro LX V aX wX K hl hp hcl hf hJ hK
      have t12 := hf.in (i := 3) (d := 12) (by kernel_rfl) (hp 3 (by kernel_rfl)) (hJ.vals 3 _ rfl (hp 3 (by kernel_rfl)))
      have t13 := hf.in (i := 4) (d := 13) (by kernel_rfl) (hp 4 (by kernel_rfl)) (hJ.vals 4 _ rfl (hp 4 (by kernel_rfl)))
      obtain ⟨h1, h2, h3, h4⟩ := HPQ.out
      rw [if_pos (by rfl)]
      go_simp
      exact hK _ _ (hJ.val (Grew.refl _) 5 _ (by kernel_rfl) rfl)
    case o1_6 =>
      intro LX V aX wX K hl hp hcl hf hJ hK
      have t14 := hf.in (i := 5) (d := 14) (by kernel_rfl) (hp 5 (by kernel_rfl)) (hJ.vals 5 _ rfl (hp 5 (by kernel_rfl)))
      obtain ⟨c0, c1, c2, d0, d1, d2, d3, e0, e1, e2, e3⟩ := HCE.out wX hJ.grew
      rw [if_pos (by rfl)]
      go_simp
      exact hK _ _ (hJ.val (Grew.refl _) 6 _ (by kernel_rfl) rfl)
    case o1_7 =>
      intro LX V aX wX K hl hp hcl hf hJ hK
      have t2 : aX.tmps[2]? = some (.pointer (some ⟨tb, 0, none⟩)) := hf.old (by kernel_rfl) rfl
      obtain ⟨c0, c1, c2, d0, d1, d2, d3, e0, e1, e2, e3⟩ := HCE.out wX hJ.grew
      rw [if_pos (by rfl)]
      go_simp
      exact hK _ _ (hJ.val (Grew.refl _) 7 _ (by kernel_rfl) rfl)
    case o1_8 =>
      intro LX V aX wX K hl hp hcl hf hJ hK
      have t16 := hf.in (i := 7) (d := 16) (by kernel_rfl) (hp 7 (by kernel_rfl)) (hJ.vals 7 _ rfl (hp 7 (by kernel_rfl)))
      rw [if_pos (by rfl)]
      go_simp
      exact hK _ _ (hJ.val (Grew.refl _) 8 _ (by kernel_rfl) rfl)
    case o1_9 =>
      intro LX V aX wX K hl hp hcl hf hJ hK
      have t17 := hf.in (i := 8) (d := 17) (by kernel_rfl) (hp 8 (by kernel_rfl)) (hJ.vals 8 _ rfl (hp 8 (by kernel_rfl)))
      rw [if_pos (by rfl)]
      go_simp
      exact hK _ _ (hJ.val (Grew.refl _) 9 _ (by kernel_rfl) rfl)
    case o1_10 =>
      intro LX V aX wX K hl hp hcl hf hJ hK
      have t18 := hf.in (i := 9) (d := 18) (by kernel_rfl) (hp 9 (by kernel_rfl)) (hJ.vals 9 _ rfl (hp 9 (by kernel_rfl)))
      obtain ⟨c0, c1, c2, d0, d1, d2, d3, e0, e1, e2, e3⟩ := HCE.out wX hJ.grew
      rw [if_pos (by rfl)]
      go_simp
      exact hK _ _ (hJ.val (Grew.refl _) 10 _ (by kernel_rfl) rfl)
    case o1_11 =>
      intro LX V aX wX K hl hp hcl hf hJ hK
      have t1 : aX.tmps[1]? = some (.int .i64 (q : Int)) := hf.old (by kernel_rfl) rfl
      rw [if_pos (by rfl)]
      go_simp
      exact hK _ _ (hJ.val (Grew.refl _) 11 _ (by kernel_rfl) rfl)
    case o1_12 =>
      intro LX V aX wX K hl hp hcl hf hJ hK
      have t19 := hf.in (i := 10) (d := 19) (by kernel_rfl) (hp 10 (by kernel_rfl)) (hJ.vals 10 _ rfl (hp 10 (by kernel_rfl)))
      have t20 := hf.in (i := 11) (d := 20) (by kernel_rfl) (hp 11 (by kernel_rfl)) (hJ.vals 11 _ rfl (hp 11 (by kernel_rfl)))
      obtain ⟨h1, h2, h3, h4⟩ := HPQ.out
      rw [if_pos (by rfl)]
      go_simp
      exact hK _ _ (hJ.val (Grew.refl _) 12 _ (by kernel_rfl) rfl)
    case o1_13 =>
      intro LX V aX wX K hl hp hcl hf hJ hK
      have t21 := hf.in (i := 12) (d := 21) (by kernel_rfl) (hp 12 (by kernel_rfl)) (hJ.vals 12 _ rfl (hp 12 (by kernel_rfl)))
      obtain ⟨c0, c1, c2, d0, d1, d2, d3, e0, e1, e2, e3⟩ := HCE.out wX hJ.grew
      rw [if_pos (by rfl)]
      go_simp
      exact hK _ _ (hJ.val (Grew.refl _) 13 _ (by kernel_rfl) rfl)
    case o1_14 =>
      intro LX V aX wX K hl hp hcl hf hJ hK
      rw [if_pos (by rfl)]
      go_simp
      exact hK _ _ (hJ.alloc (by kernel_rfl) ⟨14, 16, 66, #[.int .i64 0, .int .i64 0, .int .i64 0, .int .i64 0], #[.int .i64 x1.1.x, .int .i64 x1.1.y, .int .i64 x1.2.x, .int .i64 x1.2.y]⟩ (by simp) hl rfl)
    case o1_15 =>
      intro LX V aX wX K hl hp hcl hf hJ hK
      rw [if_pos (by rfl)]
      go_simp
      exact hK _ _ (hJ.alloc (by kernel_rfl) ⟨15, 17, 66, #[.int .i64 0, .int .i64 0, .int .i64 0, .int .i64 0], #[.int .i64 y1.1.x, .int .i64 y1.1.y, .int .i64 y1.2.x, .int .i64 y1.2.y]⟩ (by simp) hl rfl)
    case o1_16 =>
      intro LX V aX wX K hl hp hcl hf hJ hK
      have t15 := hf.in (i := 6) (d := 15) (by kernel_rfl) (hp 6 (by kernel_rfl)) (hJ.vals 6 _ rfl (hp 6 (by kernel_rfl)))
      rw [if_pos (by rfl)]
      obtain ⟨g, hg, hg2⟩ := hJ.ptr ⟨14, 16, 66, #[.int .i64 0, .int .i64 0, .int .i64 0, .int .i64 0], #[.int .i64 x1.1.x, .int .i64 x1.1.y, .int .i64 x1.2.x, .int .i64 x1.2.y]⟩ (by simp) (hp 14 (by kernel_rfl)) hl
      have tp := hf.in (i := 14) (d := 7) (by kernel_rfl) (hp 14 (by kernel_rfl)) hg
      refine wp_store_row _ _ _ rfl g #[.int .i64 x1.1.x, .int .i64 x1.1.y, .int .i64 x1.2.x, .int .i64 x1.2.y] (by simp [Act.eval, tp]) (by simp [Act.eval, t15]) _ _ hg2 (by kernel_rfl) rfl (by kernel_rfl) ?_
      exact hK _ _ (hJ.fill (by kernel_rfl) ⟨14, 16, 66, #[.int .i64 0, .int .i64 0, .int .i64 0, .int .i64 0], #[.int .i64 x1.1.x, .int .i64 x1.1.y, .int .i64 x1.2.x, .int .i64 x1.2.y]⟩ (by simp) (hp 14 (by kernel_rfl)) hl rfl g hg _)
    case o1_17 =>
      intro LX V aX wX K hl hp hcl hf hJ hK
      have t22 := hf.in (i := 13) (d := 22) (by kernel_rfl) (hp 13 (by kernel_rfl)) (hJ.vals 13 _ rfl (hp 13 (by kernel_rfl)))
      rw [if_pos (by rfl)]
      obtain ⟨g, hg, hg2⟩ := hJ.ptr ⟨15, 17, 66, #[.int .i64 0, .int .i64 0, .int .i64 0, .int .i64 0], #[.int .i64 y1.1.x, .int .i64 y1.1.y, .int .i64 y1.2.x, .int .i64 y1.2.y]⟩ (by simp) (hp 15 (by kernel_rfl)) hl
      have tp := hf.in (i := 15) (d := 8) (by kernel_rfl) (hp 15 (by kernel_rfl)) hg
      refine wp_store_row _ _ _ rfl g #[.int .i64 y1.1.x, .int .i64 y1.1.y, .int .i64 y1.2.x, .int .i64 y1.2.y] (by simp [Act.eval, tp]) (by simp [Act.eval, t22]) _ _ hg2 (by kernel_rfl) rfl (by kernel_rfl) ?_
      exact hK _ _ (hJ.fill (by kernel_rfl) ⟨15, 17, 66, #[.int .i64 0, .int .i64 0, .int .i64 0, .int .i64 0], #[.int .i64 y1.1.x, .int .i64 y1.1.y, .int .i64 y1.2.x, .int .i64 y1.2.y]⟩ (by simp) (hp 15 (by kernel_rfl)) hl rfl g hg _)
  intro V wZ hJ
  obtain ⟨g7, hv7, _, hg7⟩ := hJ.got ⟨14, 16, 66, #[.int .i64 0, .int .i64 0, .int .i64 0, .int .i64 0], #[.int .i64 x1.1.x, .int .i64 x1.1.y, .int .i64 x1.2.x, .int .i64 x1.2.y]⟩ (by simp) (by kernel_rfl) (by kernel_rfl)
  obtain ⟨g8, hv8, _, hg8⟩ := hJ.got ⟨15, 17, 66, #[.int .i64 0, .int .i64 0, .int .i64 0, .int .i64 0], #[.int .i64 y1.1.x, .int .i64 y1.1.y, .int .i64 y1.2.x, .int .i64 y1.2.y]⟩ (by simp) (by kernel_rfl) (by kernel_rfl)
  have HZ := Lib.hid (And.intro hg7 (And.intro hg8 hJ.grew))
  simp only [puts, Act.put, List.setIfInBounds_toArray, List.set_cons_zero, List.set_cons_succ]
  rw [hv7, hv8]
  clear hJ hv7 hv8 hg7 hg8
  have HR7 := Lib.hid HZ.out.1
  have c7 := fun (o : Nat) => cell_of_row wZ g7 o _ _ _ HZ.out.1
  have c8 := fun (o : Nat) => cell_of_row wZ g8 o _ _ _ HZ.out.2.1
  have x0 := c7 0
  have x1' := c7 1
  have x2 := c7 2
  have x3 := c7 3
  have y0 := c8 0
  have y1' := c8 1
  have y2 := c8 2
  have y3 := c8 3
  simp at x0 x1' x2 x3 y0 y1' y2 y3
  obtain ⟨_, ha, _⟩ := HCE.out wZ HZ.out.2.2
  clear c7 c8
  cases ac with
  | true =>
    have HK : Hid (r = if cmpZ (x1.1.x + x1.2.x) (y1.1.x + y1.2.x) = 0 then cmpZ (p : Int) (q : Int) else cmpZ (x1.1.x + x1.2.x) (y1.1.x + y1.2.x)) := HR
    obtain ⟨k, hk⟩ : ∃ k, k = cmpZ (x1.1.x + x1.2.x) (y1.1.x + y1.2.x) := ⟨_, rfl⟩
    obtain ⟨m, hm⟩ : ∃ m, m = cmpZ (p : Int) (q : Int) := ⟨_, rfl⟩
    rw [← hk] at HSX HK
    rw [← hm] at HPC HK
    clear hk hm HSY
    go_wp2_with fail
    refine (HSX.out _).mono ?_
    rintro e w1 ⟨rfl, hg1⟩
    have HG1 := Lib.hid (HZ.out.2.2.trans hg1)
    clear hg1
    go_wp2_with fail
    refine (HPC.out _).mono ?_
    rintro e w2 ⟨rfl, rfl⟩
    have HO : Hid (∀ (g : Nat) (w : World), w.cell? ⟨g, 0, none⟩ = some (.int .i64 k) → w.cell? ⟨g, 1, none⟩ = some (.int .i64 m) → Calls Tryz.prog 77 #[.slice (some ⟨g, 0, none⟩) 2 2] w fun e w' => e = .returned (.int .i64 r) ∧ w = w') := Lib.hid (fun g w h1 h2 => by rw [HK.out]; exact or_any g k m w h1 h2)
    clear HK
    go_wp2_with fail
    refine (HO.out _ _ (cell_of_row _ _ _ _ _ _ (alloc_new _ _)) (cell_of_row _ _ _ _ _ _ (alloc_new _ _))).mono ?_
    rintro e w' ⟨rfl, rfl⟩
    go_wp2_with fail
    go_ret
    exact ⟨rfl, HG1.out.alloc _⟩
  | false =>
    have HK : Hid (r = if cmpZ (x1.1.y + x1.2.y) (y1.1.y + y1.2.y) = 0 then cmpZ (p : Int) (q : Int) else cmpZ (x1.1.y + x1.2.y) (y1.1.y + y1.2.y)) := HR
    obtain ⟨k, hk⟩ : ∃ k, k = cmpZ (x1.1.y + x1.2.y) (y1.1.y + y1.2.y) := ⟨_, rfl⟩
    obtain ⟨m, hm⟩ : ∃ m, m = cmpZ (p : Int) (q : Int) := ⟨_, rfl⟩
    rw [← hk] at HSY HK
    rw [← hm] at HPC HK
    clear hk hm HSX
    go_wp2_with fail
    refine (HSY.out _).mono ?_
    rintro e w1 ⟨rfl, hg1⟩
    have HG1 := Lib.hid (HZ.out.2.2.trans hg1)
    clear hg1
    go_wp2_with fail
    refine (HPC.out _).mono ?_
    rintro e w2 ⟨rfl, rfl⟩
    have HO : Hid (∀ (g : Nat) (w : World), w.cell? ⟨g, 0, none⟩ = some (.int .i64 k) → w.cell? ⟨g, 1, none⟩ = some (.int .i64 m) → Calls Tryz.prog 77 #[.slice (some ⟨g, 0, none⟩) 2 2] w fun e w' => e = .returned (.int .i64 r) ∧ w = w') := Lib.hid (fun g w h1 h2 => by rw [HK.out]; exact or_any g k m w h1 h2)
    clear HK
    go_wp2_with fail
    refine (HO.out _ _ (cell_of_row _ _ _ _ _ _ (alloc_new _ _)) (cell_of_row _ _ _ _ _ _ (alloc_new _ _))).mono ?_
    rintro e w' ⟨rfl, rfl⟩
    go_wp2_with fail
    go_ret
    exact ⟨rfl, HG1.out.alloc _⟩
end Go.Proofs.YtjiiikeniocmfaaGreat
