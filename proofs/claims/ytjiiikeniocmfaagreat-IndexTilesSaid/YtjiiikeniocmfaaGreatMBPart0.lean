/- boxtree: a box around a part (printed by mkaround12.py) -/
import Derived.Test.YtjiiikeniocmfaaGreatMBCmp
import Derived.Lib.MinMax
import Derived.Test.YtjiiikeniocmfaaGreatMSlabW
import Derived.Test.YtjiiikeniocmfaaGreatMSBuild0
set_option linter.unusedSimpArgs false
set_option linter.unusedVariables false
namespace Go.Proofs.YtjiiikeniocmfaaGreat
open Go.RowKit Go.Geo
attribute [local go_sem] Oper.semAt_some
def growB (c b : Bx) : Bx := (⟨min c.1.x b.1.x, min c.1.y b.1.y⟩, ⟨max c.2.x b.2.x, max c.2.y b.2.y⟩)
theorem growB_self (c : Bx) : growB c c = c := by unfold growB; simp
theorem growB_left (c b : Bx) : Within c (growB c b) := by unfold Within growB; simp only; omega
theorem growB_right (c b : Bx) : Within b (growB c b) := by unfold Within growB; simp only; omega
theorem within_trans {a b c : Bx} (h : Within a b) (k : Within b c) : Within a c := by unfold Within at *; omega
def foldB (L : List Bx) (p : List Int) (c : Bx) : Bx := p.foldl (fun c x => growB c (bxI L x)) c
theorem foldB_from (L : List Bx) : ∀ (p : List Int) (c : Bx), Within c (foldB L p c)
  | [], c => Within.refl c
  | x :: p, c => within_trans (growB_left c _) (foldB_from L p _)
theorem foldB_around (L : List Bx) : ∀ (p : List Int) (c : Bx), Around L p (foldB L p c)
  | [], c, x, hx => by cases hx
  | y :: p, c, x, hx => by
    rcases List.mem_cons.1 hx with rfl | hx
    · exact within_trans (growB_right c _) (foldB_from L p _)
    · exact foldB_around L p _ x hx
theorem foldB_take {L : List Bx} {p : List Int} {c : Bx} {k : Nat} (h : k < p.length) : foldB L (p.take (k + 1)) c = growB (foldB L (p.take k) c) (bxI L (p.getD k 0)) := by
  unfold foldB
  rw [List.take_succ_eq_append_getElem h, List.foldl_append, List.getD_eq_getElem?_getD, List.getElem?_eq_getElem h]
  rfl
theorem seg_getD {O : List Int} {f t k : Nat} (h : k < t - f) : (seg O f t).getD k 0 = O.getD (f + k) 0 := by
  unfold seg
  rw [List.getD_eq_getElem?_getD, List.getD_eq_getElem?_getD, List.getElem?_take, if_pos h, List.getElem?_drop]
def bxRow (c : Bx) : Array Value := boxRow c.1.x c.1.y c.2.x c.2.y
def AroundR (L : List Bx) (O : List Int) (f t : Nat) (w : World) (e : Ending) (w' : World) : Prop := ∃ B : Bx, e = .returned (boxV B.1 B.2) ∧ Around L (seg O f t) B ∧ (t = f + 1 → B = bxI L (O.getD f 0)) ∧ Below w.heap.size w w'
set_option maxRecDepth 100000 in
set_option maxHeartbeats 4000000 in
theorem around_any (la : Option Addr) (n lc : Nat) (L : List Bx) (oa : Option Addr) (no oc : Nat) (O : List Int) (nv : Value) (g f t : Nat) (w : World) (h : IsX w la n lc L) (hO : IsInts w oa no oc O) (hrow : TreeRow w g (.slice la n lc) (.slice oa no oc) nv) (hft : f < t) (hto : t ≤ no) (hmem : ∀ x ∈ O, 0 ≤ x ∧ x < n) :
    Calls Tryz.prog 74 #[.pointer (some ⟨g, 0, none⟩), .int .i64 (f : Int), .int .i64 (t : Int)] w (AroundR L O f t w) := by
  obtain ⟨W0, hW0⟩ : ∃ W, W = w.alloc (.cells #[.int .i64 0, .int .i64 0, .int .i64 0, .int .i64 0] 66) := ⟨_, rfl⟩
  have hb0 : Below w.heap.size w W0 := by rw [hW0]; exact (Below.refl _ _).alloc (Nat.le_refl _) _
  obtain ⟨g6, hg6⟩ : ∃ g, g = w.heap.size := ⟨_, rfl⟩
  have hr6 : W0.heap[g6]? = some (.cells (boxRow 0 0 0 0) 66 (0, 0)) := by rw [hW0, hg6]; exact alloc_new _ _
  have HR6 := Lib.hid hr6
  have HB0 := Lib.hid hb0
  have HG6 := Lib.hid hg6
  have hcm := h.2.2.1
  have hnc := h.2.1
  have hocm := hO.2.2.1
  have hnoc := hO.2.1
  unfold maxLen at hcm hocm
  have HL := Lib.hid hO.1
  have HXW := Lib.hid (fun wX (hX : Below W0.heap.size W0 wX) => (h.later hb0 (Nat.le_refl _)).later hX (Nat.le_refl _))
  have HOW := Lib.hid (fun wX (hX : Below W0.heap.size W0 wX) => (hO.later hb0 (Nat.le_refl _)).later hX (Nat.le_refl _))
  have HRW := Lib.hid (fun wX (hX : Below W0.heap.size W0 wX) => (hrow.later hb0).later hX)
  have hom : ∀ k, k < no → ∃ p : Nat, O.getD k 0 = (p : Int) ∧ p < n := fun k hk => by
    have hm := hmem (O.getD k 0) (by rw [List.getD_eq_getElem?_getD, List.getElem?_eq_getElem (by rw [hO.1]; exact hk)]; exact List.getElem_mem _)
    exact ⟨(O.getD k 0).toNat, by omega, by omega⟩
  have HOM := Lib.hid hom
  obtain ⟨p, hp, hpn⟩ := hom f (by omega)
  obtain ⟨b, off, rfl, d0, d1, d2, d3⟩ := (HXW.out W0 (Below.refl _ _)).at hpn
  obtain ⟨bo, oo, rfl, e0⟩ := (HOW.out W0 (Below.refl _ _)).at (i := f) (by omega)
  obtain ⟨_, c1, c2, _⟩ := (HRW.out W0 (Below.refl _ _)).cell
  obtain ⟨x0, hx0⟩ : ∃ x, x = L.getD p bx0 := ⟨_, rfl⟩
  have HX0 : Hid (bxI L (O.getD f 0) = x0) := Lib.hid (by rw [hp, hx0]; rfl)
  rw [← hx0] at d0 d1 d2 d3
  rw [hp] at e0
  have HPQ : Hid ((0 : Int) ≤ (f : Int) ∧ (f : Int) < (no : Int) ∧ (0 : Int) ≤ (p : Int) ∧ (p : Int) < (n : Int)) := Lib.hid ⟨by omega, by omega, by omega, by omega⟩
  have hk' : ∀ {wX : World} {q o : Nat} {v : Value}, Below W0.heap.size W0 wX → W0.cell? ⟨q, o, none⟩ = some v → wX.cell? ⟨q, o, none⟩ = some v := fun hX hc => (hX.cell (p := ⟨_, _, none⟩) (block_lt_of_cell hc)).trans hc
  have HCE : Hid (∀ wX, Below W0.heap.size W0 wX → wX.cell? ⟨g, 1, none⟩ = some (.slice (some ⟨b, off, none⟩) n lc) ∧ wX.cell? ⟨g, 2, none⟩ = some (.slice (some ⟨bo, oo, none⟩) no oc) ∧ wX.cell? ⟨b, off + p * 4, none⟩ = some (.int .i64 x0.1.x) ∧ wX.cell? ⟨b, off + p * 4 + 1, none⟩ = some (.int .i64 x0.1.y) ∧ wX.cell? ⟨b, off + p * 4 + 2, none⟩ = some (.int .i64 x0.2.x) ∧ wX.cell? ⟨b, off + p * 4 + 3, none⟩ = some (.int .i64 x0.2.y) ∧ wX.cell? ⟨bo, oo + f, none⟩ = some (.int .i64 (p : Int))) := Lib.hid (fun wX hX => ⟨hk' hX c1, hk' hX c2, hk' hX d0, hk' hX d1, hk' hX d2, hk' hX d3, hk' hX e0⟩)
  clear h hO hrow hmem hom hx0 hp hpn d0 d1 d2 d3 e0 c1 c2 hk' hr6 hb0
  go_enter Tryz.func74, Tryz.ntmps74
  go_wp2_with fail
  rw [← hW0, ← hg6]
  clear hW0 hg6
  refine wp_region_J (s := [(11, 0), (12, 1), (13, 2), (14, 3), (15, 4), (16, 5), (17, 6), (18, 7), (19, 8), (20, 9), (21, 10), (22, 11), (23, 12), (7, 13)]) (by kernel_rfl) (StdJ W0 (fun iX => match iX with | 0 => some (.pointer (some ⟨g, 0, none⟩)) | 1 => some (.pointer (some ⟨g, 0, none⟩)) | 2 => some (.pointer (some ⟨g, 1, none⟩)) | 3 => some (.slice (some ⟨b, off, none⟩) n lc) | 4 => some (.pointer (some ⟨g, 0, none⟩)) | 5 => some (.pointer (some ⟨g, 0, none⟩)) | 6 => some (.pointer (some ⟨g, 2, none⟩)) | 7 => some (.slice (some ⟨bo, oo, none⟩) no oc) | 8 => some (.int .i64 (f : Int)) | 9 => some (.pointer (some ⟨bo, oo + f, none⟩)) | 10 => some (.int .i64 (p : Int)) | 11 => some (.pointer (some ⟨b, off + p * 4, none⟩)) | 12 => some (.agg #[.int .i64 x0.1.x, .int .i64 x0.1.y, .int .i64 x0.2.x, .int .i64 x0.2.y]) | _ => none) [⟨13, 14, 66, #[.int .i64 0, .int .i64 0, .int .i64 0, .int .i64 0], #[.int .i64 x0.1.x, .int .i64 x0.1.y, .int .i64 x0.2.x, .int .i64 x0.2.y]⟩]) (by kernel_rfl) (by kernel_rfl) (by kernel_rfl) (by kernel_rfl) (fun _ => undef) ?start1 ?step1 ?done1
  case start1 => exact StdJ.start ((Below.refl _ _).drew)
  case step1 =>
    refine ⟨?o1_0, ?o1_1, ?o1_2, ?o1_3, ?o1_4, ?o1_5, ?o1_6, ?o1_7, ?o1_8, ?o1_9, ?o1_10, ?o1_11, ?o1_12, ?o1_13, ?o1_14, trivial⟩
    case o1_0 =>
      intro LX V aX wX K hl hp hcl hf hJ hK
      have t0 : aX.tmps[0]? = some (.pointer (some ⟨g, 0, none⟩)) := hf.old (by kernel_rfl) rfl
      rw [if_pos (by rfl)]
      go_simp
      exact hK _ _ (hJ.val (Below.refl _ _) 0 _ (by kernel_rfl) rfl)
    case o1_1 =>
      intro LX V aX wX K hl hp hcl hf hJ hK
      have t11 := hf.in (i := 0) (d := 11) (by kernel_rfl) (hp 0 (by kernel_rfl)) (hJ.vals 0 _ rfl (hp 0 (by kernel_rfl)))
      rw [if_pos (by rfl)]
      go_simp
      exact hK _ _ (hJ.val (Below.refl _ _) 1 _ (by kernel_rfl) rfl)
    case o1_2 =>
      intro LX V aX wX K hl hp hcl hf hJ hK
      have t12 := hf.in (i := 1) (d := 12) (by kernel_rfl) (hp 1 (by kernel_rfl)) (hJ.vals 1 _ rfl (hp 1 (by kernel_rfl)))
      rw [if_pos (by rfl)]
      go_simp
      exact hK _ _ (hJ.val (Below.refl _ _) 2 _ (by kernel_rfl) rfl)
    case o1_3 =>
      intro LX V aX wX K hl hp hcl hf hJ hK
      have t13 := hf.in (i := 2) (d := 13) (by kernel_rfl) (hp 2 (by kernel_rfl)) (hJ.vals 2 _ rfl (hp 2 (by kernel_rfl)))
      obtain ⟨c1, c2, d0, d1, d2, d3, e0⟩ := HCE.out wX hJ.below
      rw [if_pos (by rfl)]
      go_simp
      exact hK _ _ (hJ.val (Below.refl _ _) 3 _ (by kernel_rfl) rfl)
    case o1_4 =>
      intro LX V aX wX K hl hp hcl hf hJ hK
      have t0 : aX.tmps[0]? = some (.pointer (some ⟨g, 0, none⟩)) := hf.old (by kernel_rfl) rfl
      rw [if_pos (by rfl)]
      go_simp
      exact hK _ _ (hJ.val (Below.refl _ _) 4 _ (by kernel_rfl) rfl)
    case o1_5 =>
      intro LX V aX wX K hl hp hcl hf hJ hK
      have t15 := hf.in (i := 4) (d := 15) (by kernel_rfl) (hp 4 (by kernel_rfl)) (hJ.vals 4 _ rfl (hp 4 (by kernel_rfl)))
      rw [if_pos (by rfl)]
      go_simp
      exact hK _ _ (hJ.val (Below.refl _ _) 5 _ (by kernel_rfl) rfl)
    case o1_6 =>
      intro LX V aX wX K hl hp hcl hf hJ hK
      have t16 := hf.in (i := 5) (d := 16) (by kernel_rfl) (hp 5 (by kernel_rfl)) (hJ.vals 5 _ rfl (hp 5 (by kernel_rfl)))
      rw [if_pos (by rfl)]
      go_simp
      exact hK _ _ (hJ.val (Below.refl _ _) 6 _ (by kernel_rfl) rfl)
    case o1_7 =>
      intro LX V aX wX K hl hp hcl hf hJ hK
      have t17 := hf.in (i := 6) (d := 17) (by kernel_rfl) (hp 6 (by kernel_rfl)) (hJ.vals 6 _ rfl (hp 6 (by kernel_rfl)))
      obtain ⟨c1, c2, d0, d1, d2, d3, e0⟩ := HCE.out wX hJ.below
      rw [if_pos (by rfl)]
      go_simp
      exact hK _ _ (hJ.val (Below.refl _ _) 7 _ (by kernel_rfl) rfl)
    case o1_8 =>
      intro LX V aX wX K hl hp hcl hf hJ hK
      have t1 : aX.tmps[1]? = some (.int .i64 (f : Int)) := hf.old (by kernel_rfl) rfl
      rw [if_pos (by rfl)]
      go_simp
      exact hK _ _ (hJ.val (Below.refl _ _) 8 _ (by kernel_rfl) rfl)
    case o1_9 =>
      intro LX V aX wX K hl hp hcl hf hJ hK
      have t18 := hf.in (i := 7) (d := 18) (by kernel_rfl) (hp 7 (by kernel_rfl)) (hJ.vals 7 _ rfl (hp 7 (by kernel_rfl)))
      have t19 := hf.in (i := 8) (d := 19) (by kernel_rfl) (hp 8 (by kernel_rfl)) (hJ.vals 8 _ rfl (hp 8 (by kernel_rfl)))
      obtain ⟨h1, h2, h3, h4⟩ := HPQ.out
      rw [if_pos (by rfl)]
      go_simp
      exact hK _ _ (hJ.val (Below.refl _ _) 9 _ (by kernel_rfl) rfl)
    case o1_10 =>
      intro LX V aX wX K hl hp hcl hf hJ hK
      have t20 := hf.in (i := 9) (d := 20) (by kernel_rfl) (hp 9 (by kernel_rfl)) (hJ.vals 9 _ rfl (hp 9 (by kernel_rfl)))
      obtain ⟨c1, c2, d0, d1, d2, d3, e0⟩ := HCE.out wX hJ.below
      rw [if_pos (by rfl)]
      go_simp
      exact hK _ _ (hJ.val (Below.refl _ _) 10 _ (by kernel_rfl) rfl)
    case o1_11 =>
      intro LX V aX wX K hl hp hcl hf hJ hK
      have t14 := hf.in (i := 3) (d := 14) (by kernel_rfl) (hp 3 (by kernel_rfl)) (hJ.vals 3 _ rfl (hp 3 (by kernel_rfl)))
      have t21 := hf.in (i := 10) (d := 21) (by kernel_rfl) (hp 10 (by kernel_rfl)) (hJ.vals 10 _ rfl (hp 10 (by kernel_rfl)))
      obtain ⟨h1, h2, h3, h4⟩ := HPQ.out
      rw [if_pos (by rfl)]
      go_simp
      exact hK _ _ (hJ.val (Below.refl _ _) 11 _ (by kernel_rfl) rfl)
    case o1_12 =>
      intro LX V aX wX K hl hp hcl hf hJ hK
      have t22 := hf.in (i := 11) (d := 22) (by kernel_rfl) (hp 11 (by kernel_rfl)) (hJ.vals 11 _ rfl (hp 11 (by kernel_rfl)))
      obtain ⟨c1, c2, d0, d1, d2, d3, e0⟩ := HCE.out wX hJ.below
      rw [if_pos (by rfl)]
      go_simp
      exact hK _ _ (hJ.val (Below.refl _ _) 12 _ (by kernel_rfl) rfl)
    case o1_13 =>
      intro LX V aX wX K hl hp hcl hf hJ hK
      rw [if_pos (by rfl)]
      go_simp
      exact hK _ _ (hJ.alloc (by kernel_rfl) ⟨13, 14, 66, #[.int .i64 0, .int .i64 0, .int .i64 0, .int .i64 0], #[.int .i64 x0.1.x, .int .i64 x0.1.y, .int .i64 x0.2.x, .int .i64 x0.2.y]⟩ (by simp) hl rfl)
    case o1_14 =>
      intro LX V aX wX K hl hp hcl hf hJ hK
      have t23 := hf.in (i := 12) (d := 23) (by kernel_rfl) (hp 12 (by kernel_rfl)) (hJ.vals 12 _ rfl (hp 12 (by kernel_rfl)))
      rw [if_pos (by rfl)]
      obtain ⟨g, hg, hg2⟩ := hJ.ptr ⟨13, 14, 66, #[.int .i64 0, .int .i64 0, .int .i64 0, .int .i64 0], #[.int .i64 x0.1.x, .int .i64 x0.1.y, .int .i64 x0.2.x, .int .i64 x0.2.y]⟩ (by simp) (hp 13 (by kernel_rfl)) hl
      have tp := hf.in (i := 13) (d := 7) (by kernel_rfl) (hp 13 (by kernel_rfl)) hg
      refine wp_store_row _ _ _ rfl g #[.int .i64 x0.1.x, .int .i64 x0.1.y, .int .i64 x0.2.x, .int .i64 x0.2.y] (by simp [Act.eval, tp]) (by simp [Act.eval, t23]) _ _ hg2 (by kernel_rfl) rfl (by kernel_rfl) ?_
      exact hK _ _ (hJ.fill (by kernel_rfl) ⟨13, 14, 66, #[.int .i64 0, .int .i64 0, .int .i64 0, .int .i64 0], #[.int .i64 x0.1.x, .int .i64 x0.1.y, .int .i64 x0.2.x, .int .i64 x0.2.y]⟩ (by simp) (hp 13 (by kernel_rfl)) hl rfl g hg _)
  intro V wZ hJ
  obtain ⟨g7, hv7, hg70, hg7⟩ := hJ.got ⟨13, 14, 66, #[.int .i64 0, .int .i64 0, .int .i64 0, .int .i64 0], #[.int .i64 x0.1.x, .int .i64 x0.1.y, .int .i64 x0.2.x, .int .i64 x0.2.y]⟩ (by simp) (by kernel_rfl) (by kernel_rfl)
  have HZ := Lib.hid (And.intro hg7 (And.intro hg70 hJ.below))
  simp only [puts, Act.put, List.setIfInBounds_toArray, List.set_cons_zero, List.set_cons_succ]
  rw [hv7]
  clear hJ hv7 hg7 hg70
  obtain ⟨c1, c2, _⟩ := HCE.out wZ HZ.out.2.2
  obtain ⟨m, hm⟩ : ∃ m, t = f + m := ⟨t - f, by omega⟩
  subst hm
  have hm1 : 0 < m := by omega
  have hft0 : (0 : Int) ≤ (f : Int) := by omega
  have hft1 : (f : Int) ≤ (f : Int) + (m : Int) := by omega
  have hft3 : (f : Int) ≤ ((f + m : Nat) : Int) := by omega
  have hft2 : ((f + m : Nat) : Int) ≤ (oc : Int) := by omega
  have hft4 : (f : Int) + (m : Int) ≤ (oc : Int) := by omega
  have HTO := Lib.hid hto
  clear hft hto
  go_wp2_with fail
  go_loopw [32] (fun i wr => ∃ k : Nat, k ≤ m ∧ i = .int .i64 k ∧ Hid (wr.heap[g7]? = some (.cells (bxRow (foldB L ((seg O f (f + m)).take k) x0)) 66 (0, 0)) ∧ Below W0.heap.size W0 wr)) (fun i _ => m - (intOf i).toNat)
  case atStart => exact ⟨0, by omega, rfl, Lib.hid ⟨HZ.out.1, HZ.out.2.2⟩⟩
  case round =>
    obtain ⟨k, hk, rfl, hst⟩ := hrel
    clear c1 c2
    obtain ⟨c1, c2, _⟩ := HCE.out wr hst.out.2
    by_cases hkm : k < m
    · have hk0 : (0 : Int) ≤ (k : Int) := by omega
      have hk5 : (k : Int) < (m : Int) := by omega
      have hwk : IntKind.i64.wrap ((k : Int) + 1) = (k : Int) + 1 := IntWalk.i64_in _ (by omega)
      obtain ⟨q, hq, hqn⟩ := HOM.out (f + k) (by have := HTO.out; omega)
      have hq0 : (0 : Int) ≤ (q : Int) := by omega
      have hq5 : (q : Int) < (n : Int) := by omega
      obtain ⟨b', off', e', d0, d1, d2, d3⟩ := (HXW.out wr hst.out.2).at hqn
      cases e'
      obtain ⟨b', off', e', e0⟩ := (HOW.out wr hst.out.2).at (i := f + k) (by have := HTO.out; omega)
      cases e'
      obtain ⟨y1, hy1⟩ : ∃ x, x = L.getD q bx0 := ⟨_, rfl⟩
      rw [← hy1] at d0 d1 d2 d3
      rw [hq, ← Nat.add_assoc] at e0
      obtain ⟨c, hc⟩ : ∃ c, c = foldB L ((seg O f (f + m)).take k) x0 := ⟨_, rfl⟩
      have hnx : foldB L ((seg O f (f + m)).take (k + 1)) x0 = growB c y1 := by
        rw [foldB_take (by rw [seg_length (by rw [HL.out]; exact HTO.out)]; omega), ← hc, seg_getD (by omega), hq, hy1]
        rfl
      have HNX := Lib.hid hnx
      have hrow := hst.out.1
      rw [← hc] at hrow
      have HB := Lib.hid hst.out.2
      obtain ⟨WA, hWA⟩ : ∃ W, W = wr.alloc (.cells #[.int .i64 y1.1.x, .int .i64 y1.1.y, .int .i64 y1.2.x, .int .i64 y1.2.y] 66) := ⟨_, rfl⟩
      obtain ⟨gA, hgA⟩ : ∃ g, g = wr.heap.size := ⟨_, rfl⟩
      have hbA : Below wr.heap.size wr WA := by rw [hWA]; exact (Below.refl _ _).alloc (Nat.le_refl _) _
      have hA : WA.heap[gA]? = some (.cells (boxRow y1.1.x y1.1.y y1.2.x y1.2.y) 66 (0, 0)) := by rw [hWA, hgA]; exact alloc_new _ _
      have hA7 : WA.heap[g7]? = some (.cells (boxRow c.1.x c.1.y c.2.x c.2.y) 66 (0, 0)) := (hbA.block _ (heap_lt2 hrow)).trans hrow
      have hne : g7 ≠ gA := by have := heap_lt2 hrow; omega
      obtain ⟨a0, a1, a2, a3⟩ := box_cells hA
      obtain ⟨x0', x1', x2', x3'⟩ := box_cells hA7
      obtain ⟨f0, f1, _, _⟩ := box_frozen hA7
      obtain ⟨m1, hm1⟩ : ∃ x, min c.1.x y1.1.x = x := ⟨_, rfl⟩
      obtain ⟨m2, hm2⟩ : ∃ x, min c.1.y y1.1.y = x := ⟨_, rfl⟩
      obtain ⟨m3, hm3⟩ : ∃ x, max c.2.x y1.2.x = x := ⟨_, rfl⟩
      obtain ⟨m4, hm4⟩ : ∃ x, max c.2.y y1.2.y = x := ⟨_, rfl⟩
      have HGR : Hid (growB c y1 = (⟨m1, m2⟩, ⟨m3, m4⟩)) := Lib.hid (by unfold growB; rw [hm1, hm2, hm3, hm4])
      obtain ⟨WB, hWB⟩ : ∃ W, W = (WA.setCell ⟨g7, 0, none⟩ (.int .i64 m1)).setCell ⟨g7, 1, none⟩ (.int .i64 m2) := ⟨_, rfl⟩
      have hB7 : WB.heap[g7]? = some (.cells (boxRow m1 m2 c.2.x c.2.y) 66 (0, 0)) := by rw [hWB]; exact put1 (put0 hA7 m1) m2
      have hBA : WB.heap[gA]? = some (.cells (boxRow y1.1.x y1.1.y y1.2.x y1.2.y) 66 (0, 0)) := by rw [hWB, heap_other (Ne.symm hne), heap_other (Ne.symm hne)]; exact hA
      have hbB : Below W0.heap.size W0 WB := by rw [hWB]; exact ((HB.out.trans (hbA.mono HB.out.size)).setCell (p := ⟨g7, 0, none⟩) HZ.out.2.1 _).setCell (p := ⟨g7, 1, none⟩) HZ.out.2.1 _
      obtain ⟨_, _, u2, u3⟩ := box_cells hB7
      obtain ⟨_, _, v2, v3⟩ := box_cells hBA
      obtain ⟨_, _, f2, f3⟩ := box_frozen hB7
      have hB7' := And.intro hB7 hbB
      rw [hWB, hWA] at hB7'
      have HB7 := Lib.hid hB7'
      rw [hWB] at u2 u3 v2 v3 f2 f3
      rw [hWA] at a0 a1 a2 a3 x0' x1' x2' x3' f0 f1 u2 u3 v2 v3 f2 f3
      rw [hgA] at a0 a1 a2 a3 v2 v3
      clear hst hq hc hnx hrow hA hA7 hB7 hB7' hBA hbB hy1 hbA
      go_wp2_with fail
      go_roundw
      case rel => exact ⟨k + 1, by omega, by go_num, Lib.hid ⟨by rw [HNX.out, HGR.out]; exact put3 (put2 HB7.out.1 m3) m4, (HB7.out.2.setCell (p := ⟨g7, 2, none⟩) HZ.out.2.1 _).setCell (p := ⟨g7, 3, none⟩) HZ.out.2.1 _⟩⟩
      case measure => simp [intOf]; omega
    · have hkm2 : m = k := by omega
      subst hkm2
      have hk5 : ¬ (m : Int) < (m : Int) := by omega
      have hfin := hst.out.1
      rw [List.take_of_length_le (by rw [seg_length (by rw [HL.out]; exact HTO.out)]; omega)] at hfin
      obtain ⟨c, hc⟩ : ∃ c, c = foldB L (seg O f (f + m)) x0 := ⟨_, rfl⟩
      rw [← hc] at hfin
      have HC := Lib.hid hc
      obtain ⟨x0', x1', x2', x3'⟩ := box_cells hfin
      have hr6 := (hst.out.2.block g6 (by have := heap_lt2 HR6.out; omega)).trans HR6.out
      have HR7 := Lib.hid hr6
      obtain ⟨z0, z1, z2, z3⟩ := box_cells hr6
      obtain ⟨f0, f1, f2, f3⟩ := box_frozen hr6
      have HBE := Lib.hid hst.out.2
      clear hc hfin hr6 hst
      go_wp2_with fail
      have hput : ((((wr.setCell ⟨g6, 0, none⟩ (.int .i64 c.1.x)).setCell ⟨g6, 1, none⟩ (.int .i64 c.1.y)).setCell ⟨g6, 2, none⟩ (.int .i64 c.2.x)).setCell ⟨g6, 3, none⟩ (.int .i64 c.2.y)).heap[g6]? = some (.cells #[.int .i64 c.1.x, .int .i64 c.1.y, .int .i64 c.2.x, .int .i64 c.2.y] 66 (0, 0)) := put3 (put2 (put1 (put0 HR7.out _) _) _) _
      refine bodyPost_ret (results_cell_row rfl _ _ _ _ _ _ _ rfl hput Tryz.underlying66 rfl (by kernel_rfl)) rfl ⟨c, rfl, by rw [HC.out]; exact foldB_around _ _ _, fun hm => ?_, ?_⟩
      · have hm : m = 1 := by omega
        subst hm
        rw [HC.out, seg_one (by rw [HL.out]; have := HTO.out; omega), HX0.out]
        show growB x0 (bxI L (O.getD f 0)) = x0
        rw [HX0.out, growB_self]
      · exact ((((HB0.out.trans (HBE.out.mono HB0.out.size)).setCell (p := ⟨g6, 0, none⟩) (by rw [HG6.out]; exact Nat.le_refl _) _).setCell (p := ⟨g6, 1, none⟩) (by rw [HG6.out]; exact Nat.le_refl _) _).setCell (p := ⟨g6, 2, none⟩) (by rw [HG6.out]; exact Nat.le_refl _) _).setCell (p := ⟨g6, 3, none⟩) (by rw [HG6.out]; exact Nat.le_refl _) _
end Go.Proofs.YtjiiikeniocmfaaGreat

/- boxtree: a part of the order is sorted -/
set_option linter.unusedSimpArgs false
set_option linter.unusedVariables false
namespace Go.Proofs.YtjiiikeniocmfaaGreat
open Go.RowKit Go.Sort Go.Geo
/-- nothing that was there has turned but one block. -/
structure But (g : Nat) (w w' : World) : Prop where
  os : w'.os = w.os
  tape : w'.tape = w.tape
  output : w'.output = w.output
  size : w.heap.size ≤ w'.heap.size
  block : ∀ k, k < w.heap.size → k ≠ g → w'.heap[k]? = w.heap[k]?
theorem But.below {g B : Nat} {w w' : World} (h : But g w w') (hB : B ≤ g) (hw : B ≤ w.heap.size) : Below B w w' := ⟨h.os, h.tape, h.output, h.size, fun k hk => h.block k (by omega) (by omega)⟩
theorem But.cell {g q o : Nat} {w w' : World} {v : Value} (h : But g w w') (hq : q ≠ g) (hc : w.cell? ⟨q, o, none⟩ = some v) : w'.cell? ⟨q, o, none⟩ = some v := by
  have hb := h.block q (block_lt_of_cell hc) hq
  unfold World.cell? at *
  simp only at *
  rw [hb]; exact hc
theorem IsX.but {g : Nat} {w w' : World} {la : Option Addr} {n lc : Nat} {L : List Bx} (hX : IsX w la n lc L) (h : But g w w') (hq : ∀ b off, la = some ⟨b, off, none⟩ → b ≠ g) : IsX w' la n lc L := by
  obtain ⟨h1, h2, h3, h4, h5⟩ := hX
  refine ⟨h1, h2, h3, h4, fun hn => ?_⟩
  obtain ⟨b, off, e, hc⟩ := h5 hn
  refine ⟨b, off, e, fun i hi k hk => ?_⟩
  have h0 := hc i hi k hk
  have hl : k < (rowX (L.getD i bx0)).length := hk
  rw [List.getElem?_eq_getElem hl] at h0 ⊢
  exact h.cell (hq b off e) h0
theorem TreeRow.but {w w' : World} {g og : Nat} {lv ov nv : Value} (h : TreeRow w g lv ov nv) (hb : But og w w') (hg : g ≠ og) : TreeRow w' g lv ov nv := (hb.block g (heap_lt2 h) hg).trans h
abbrev Idx (n : Nat) := {x : Int // 0 ≤ x ∧ x < n}
def encX (n : Nat) (x : Idx n) : Value := .int .i64 x.1
def cfX (L : List Bx) (ac : Bool) (n : Nat) (x y : Idx n) : Int := ordI L ac x.1 y.1
theorem swoX (L : List Bx) (ac : Bool) (n : Nat) : SWO (Go.Proofs.ltOf (cfX L ac n)) := by
  refine ⟨fun x => ?_, fun x y z h1 h2 => ?_, fun x y z h1 h2 => ?_⟩
  · unfold Go.Proofs.ltOf cfX
    rw [decide_eq_false_iff_not, ordI_lt]; exact ltI_irrefl _ _ _
  · unfold Go.Proofs.ltOf cfX at *
    rw [decide_eq_true_eq, ordI_lt] at *
    exact ltI_trans h1 h2
  · unfold Go.Proofs.ltOf cfX at *
    rw [decide_eq_false_iff_not, ordI_lt] at *
    unfold ltI at *
    omega
theorem oneX (n : Nat) : Go.Proofs.OneCell (encX n) := fun _ => rfl
theorem enters_part : ∀ args w, (callFunc 76 args).run Tryz.prog w = .ok (.enter 76 args) w := enters_of Tryz.func76 (by kernel_rfl) rfl
theorem idx_get {n : Nat} [Inhabited (Idx n)] (d : Array (Idx n)) (i : Nat) (h : i < d.size) : (d[i]!).1 = (d.toList.map (·.1)).getD i 0 := by
  rw [getElem!_pos d i h, List.getD_eq_getElem?_getD, List.getElem?_map, Array.getElem?_toList, Array.getElem?_eq_getElem h]
  rfl
theorem sortWorld_but {α : Type} [Inhabited α] (enc : α → Value) (w : World) (g off m : Nat) (dk : Array α) (os : Array Obj) : But g w (Go.Proofs.sortWorld enc w g off m dk os) := by
  refine ⟨rfl, rfl, rfl, ?_, fun k hk hg => ?_⟩
  · unfold Go.Proofs.sortWorld putRow mapBlock Go.Sort.ahead grow
    simp
  · unfold Go.Proofs.sortWorld
    rw [heap_grow_old _ _ (by unfold putRow mapBlock Go.Sort.ahead; simpa using hk)]
    unfold putRow mapBlock Go.Sort.ahead
    simp only [Array.getElem?_modify]
    rw [if_neg (fun e => hg e.symm)]
/-- a list with a part put anew. -/
def putSeg (O : List Int) (f t : Nat) (S : List Int) : List Int := O.take f ++ S ++ O.drop t
theorem putSeg_len {O S : List Int} {f t : Nat} (h : f ≤ t) (ht : t ≤ O.length) (hS : S.length = t - f) : (putSeg O f t S).length = O.length := by
  unfold putSeg
  rw [List.length_append, List.length_append, List.length_take, List.length_drop]
  omega
theorem putSeg_get {O S : List Int} {f t : Nat} (h : f ≤ t) (ht : t ≤ O.length) (hS : S.length = t - f) (k : Nat) : (putSeg O f t S).getD k 0 = if f ≤ k ∧ k < t then S.getD (k - f) 0 else O.getD k 0 := by
  unfold putSeg
  rw [List.getD_eq_getElem?_getD]
  by_cases h1 : k < f
  · rw [if_neg (by omega), List.append_assoc, List.getElem?_append_left (by rw [List.length_take]; omega), List.getElem?_take, if_pos h1, List.getD_eq_getElem?_getD]
  · by_cases h2 : k < t
    · rw [if_pos (by omega), List.getElem?_append_left (by rw [List.length_append, List.length_take]; omega), List.getElem?_append_right (by rw [List.length_take]; omega), List.length_take, List.getD_eq_getElem?_getD]
      congr 2
      omega
    · rw [if_neg (by omega), List.getElem?_append_right (by rw [List.length_append, List.length_take]; omega), List.length_append, List.length_take, List.getElem?_drop, List.getD_eq_getElem?_getD]
      congr 2
      omega
theorem putSeg_seg {O S : List Int} {f t : Nat} (h : f ≤ t) (ht : t ≤ O.length) (hS : S.length = t - f) : seg (putSeg O f t S) f t = S := by
  apply List.ext_getElem?
  intro i
  unfold seg putSeg
  rw [List.getElem?_take]
  by_cases hi : i < t - f
  · rw [if_pos hi, List.getElem?_drop, List.getElem?_append_left (by rw [List.length_append, List.length_take]; omega), List.getElem?_append_right (by rw [List.length_take]; omega), List.length_take]
    congr 1
    omega
  · rw [if_neg hi, List.getElem?_eq_none (by omega)]
theorem putSeg_perm {O S : List Int} {f t : Nat} (h : f ≤ t) (hp : S.Perm (seg O f t)) : (putSeg O f t S).Perm O := by
  have e : O = O.take f ++ seg O f t ++ O.drop t := by
    unfold seg
    rw [List.append_assoc]
    conv => lhs; rw [← List.take_append_drop f O]
    congr 1
    conv => lhs; rw [← List.take_append_drop (t - f) (O.drop f)]
    rw [List.drop_drop, show f + (t - f) = t by omega]
  conv => rhs; rw [e]
  exact (List.Perm.append_left _ hp).append_right _
theorem SortB_any (base og oc : Nat) (O : List Int) (la : Option Addr) (n lc : Nat) (L : List Bx) (ov nv : Value) (g tb ab : Nat) (ac : Bool) (f t : Nat) (w : World)
    (hO : OwnI w base (.slice (some ⟨og, 0, none⟩) O.length oc) O) (hX : IsX w la n lc L) (hin : InB L) (hrow : TreeRow w g (.slice la n lc) ov nv) (htb : w.cell? ⟨tb, 0, none⟩ = some (.pointer (some ⟨g, 0, none⟩))) (hab : w.cell? ⟨ab, 0, none⟩ = some (.bool ac))
    (ng : g ≠ og) (nt : tb ≠ og) (na : ab ≠ og) (nl : ∀ b off, la = some ⟨b, off, none⟩ → b ≠ og) (hft : f + 2 ≤ t) (hto : t ≤ O.length) (hn : O.length ≤ 100000) (hmem : ∀ x ∈ O, 0 ≤ x ∧ x < n) (hnd : O.Nodup) :
    Calls Tryz.prog 75 #[.slice (some ⟨og, f, none⟩) (t - f) (oc - f), .func (.func 76) #[] #[.pointer (some ⟨tb, 0, none⟩), .pointer (some ⟨ab, 0, none⟩)]] w fun e w' => e = .returned (.tuple #[]) ∧ ∃ S, S.Perm (seg O f t) ∧ S.Pairwise (ltI L ac) ∧ OwnI w' base (.slice (some ⟨og, 0, none⟩) O.length oc) (putSeg O f t S) ∧ But og w w' := by
  have hown := hO
  rcases hO.2 with ⟨h0, _⟩ | ⟨g', cap', cur, e0, hbg, hg, hnc, hm, hs, ht⟩
  · cases h0
  · injection e0 with e1 _ e3
    injection e1 with e1
    injection e1 with e1
    subst e1
    subst e3
    have hlt : og < w.heap.size := heap_lt2 hg
    obtain ⟨M, hMe⟩ : ∃ M, M = seg O f t := ⟨_, rfl⟩
    have hMl : M.length = t - f := by rw [hMe]; exact seg_length hto
    have hMm : ∀ x ∈ M, 0 ≤ x ∧ x < n := fun x hx => hmem x (by rw [hMe] at hx; exact List.mem_of_mem_drop (List.mem_of_mem_take hx))
    have hMnd : M.Nodup := by rw [hMe]; exact (hnd.sublist (List.drop_sublist _ _)).sublist (List.take_sublist _ _)
    obtain ⟨x0, hx0⟩ := List.exists_mem_of_ne_nil M (by intro e; rw [e] at hMl; simp at hMl; omega)
    letI : Inhabited (Idx n) := ⟨⟨x0, hMm x0 hx0⟩⟩
    obtain ⟨D, hD⟩ : ∃ D : List (Idx n), D.map (·.1) = M := ⟨M.pmap Subtype.mk hMm, by simp [List.map_pmap]⟩
    have hDl : D.length = M.length := by rw [← hD, List.length_map]
    have hcmp : Go.Proofs.CmpLays1 Tryz.prog 76 #[.pointer (some ⟨tb, 0, none⟩), .pointer (some ⟨ab, 0, none⟩)] (encX n) (cfX L ac n) og f D.toArray.size w := by
      intro m dos dk _ x y
      have hbw := sortWorld_but (encX n) w og f m dk dos
      obtain ⟨p, hp⟩ : ∃ p : Nat, x.1 = (p : Int) := ⟨x.1.toNat, by have := x.2; omega⟩
      obtain ⟨q, hq⟩ : ∃ p : Nat, y.1 = (p : Int) := ⟨y.1.toNat, by have := y.2; omega⟩
      have hc := ordB_any la n lc L ov nv g tb ab ac p q _ (hX.but hbw nl) hin (hrow.but hbw ng) (hbw.cell nt htb) (hbw.cell na hab) (by have := x.2; omega) (by have := y.2; omega)
      rw [← hp, ← hq] at hc
      refine hc.mono ?_
      rintro e w' ⟨he, hgr⟩
      exact ⟨he, hgr.grow⟩
    have hH : Holds (encX n) w og f D.toArray := by
      intro j hj
      have hj' : j < D.length := by simpa using hj
      have hc := World.ownsRow.cells hown (g := og) rfl (f + j) _ (flatI_get O (f + j) (by omega))
      have e : (⟨og, 0, none⟩ : Addr).add (f + j) = ⟨og, 0 + (f + j), none⟩ := by unfold Addr.add; split <;> simp_all
      rw [e, Nat.zero_add] at hc
      refine ⟨?_, frozen_of_row _ _ _ _ _ hg⟩
      rw [hc]
      unfold encX
      rw [idx_get _ _ hj, List.toList_toArray, hD, hMe, seg_getD (by omega)]
    have hcon := Go.Proofs.Any.slices_SortFunc Tryz.sortF (encX n) (oneX n) (cfX L ac n) (swoX L ac n) 76 #[.pointer (some ⟨tb, 0, none⟩), .pointer (some ⟨ab, 0, none⟩)] og f (oc - f) D.toArray w enters_part hcmp hH hlt (by simp; omega)
    change Calls Tryz.prog 75 _ _ _ at hcon
    rw [List.size_toArray, hDl, hMl] at hcon
    refine hcon.mono ?_
    rintro e w' ⟨rfl, d', q, dos, hp, hso, rfl⟩
    obtain ⟨hsz0, _, hperm⟩ := hp
    have hsz : d'.size = t - f := by rw [hsz0]; simp; omega
    obtain ⟨S, hS⟩ : ∃ S, S = d'.toList.map (·.1) := ⟨_, rfl⟩
    have hSl : S.length = t - f := by rw [hS, List.length_map, Array.length_toList, hsz]
    have hbut := sortWorld_but (encX n) w og f q d' dos
    have hput : (Go.Proofs.sortWorld (encX n) w og f q d' dos).heap[og]? = some (.cells (putCells (encX n) f d' cur) 3 (0, 0)) := by
      unfold Go.Proofs.sortWorld
      rw [heap_grow_old _ _ (by unfold putRow mapBlock Go.Sort.ahead; simpa using hlt)]
      unfold putRow mapBlock Go.Sort.ahead
      simp only [Array.getElem?_modify, if_true, hg]
      rfl
    have hSp : S.Perm M := by
      have hl : D.length = d'.size := by omega
      rw [hS, ← hD]
      have e1 : (d'.extract 0 (t - f)).toList = d'.toList := by
        rw [show t - f = d'.size from hsz.symm]; simp
      have e2 : (D.toArray.extract 0 (t - f)).toList = D := by
        rw [show t - f = D.length by omega]; simp
      rw [e1, e2] at hperm
      exact hperm.map _
    refine ⟨rfl, S, hMe ▸ hSp, ?_, ?_, hbut⟩
    · have hnd' : S.Nodup := hSp.nodup_iff.2 hMnd
      rw [List.pairwise_iff_getElem]
      intro i j hi hj hij
      have := hso i j (Nat.zero_le _) hij (by omega)
      unfold Go.Proofs.ltOf cfX at this
      rw [decide_eq_false_iff_not, ordI_lt, idx_get _ _ (by omega), idx_get _ _ (by omega), ← hS, List.getD_eq_getElem?_getD, List.getD_eq_getElem?_getD, List.getElem?_eq_getElem hi, List.getElem?_eq_getElem hj, Option.getD_some, Option.getD_some] at this
      rcases ltI_total L ac S[i] S[j] with h | h | h
      · exact h
      · exact absurd h ((List.pairwise_iff_getElem.1 hnd') i j hi hj hij)
      · exact absurd h this
    · have hlen := putSeg_len (O := O) (S := S) (f := f) (t := t) (by omega) hto hSl
      refine ⟨by rw [flatI_length, Nat.mul_one], .inr ⟨og, oc, _, by rw [hlen], hbg, hput, by rw [hlen]; exact hnc, hm, ?_, ?_⟩⟩
      · unfold putCells
        rw [Array.size_mapIdx, hs]
      · apply List.ext_getElem?
        intro i
        rw [List.getElem?_take, hlen, Nat.mul_one]
        by_cases hi : i < O.length
        · have hic : i < cur.size := by rw [hs]; omega
          rw [if_pos hi, Array.getElem?_toList, flatI_get _ _ (by rw [hlen]; exact hi), putSeg_get (by omega) hto hSl]
          unfold putCells
          rw [Array.getElem?_mapIdx, Array.getElem?_eq_getElem hic, Option.map_some]
          by_cases hb : f ≤ i ∧ i < t
          · rw [if_pos ⟨hb.1, by omega⟩, if_pos hb]
            unfold encX
            rw [idx_get _ _ (by omega), ← hS]
          · rw [if_neg (by omega), if_neg hb]
            have h1 := flatI_get O i hi
            rw [← ht, List.getElem?_take, if_pos (by omega), Array.getElem?_toList, Array.getElem?_eq_getElem hic] at h1
            exact h1
        · rw [if_neg hi, List.getElem?_eq_none (by rw [flatI_length, hlen]; omega)]
end Go.Proofs.YtjiiikeniocmfaaGreat

/- boxtree: a tree that is being made, in memory -/
set_option linter.unusedSimpArgs false
set_option linter.unusedVariables false
namespace Go.Proofs.YtjiiikeniocmfaaGreat
open Go.RowKit Go.Geo
theorem own_ltB {w : World} {base e s n : Nat} {v : Value} {xs : List Value} (h : w.ownsRow base e s v n xs) {k : Nat} (hk : v.ownBlock = some k) : base ≤ k ∧ k < w.heap.size := h.lt k hk
theorem own_typed {w : World} {base e s n : Nat} {v : Value} {xs : List Value} (h : w.ownsRow base e s v n xs) {k t : Nat} {c : Array Value} (hk : w.heap[k]? = some (.cells c t (0, 0))) (ht : t ≠ e) : v.ownBlock ≠ some k := by
  intro hv
  rcases h.2 with ⟨rfl, _⟩ | ⟨g, cap, cur, rfl, _, hg, _⟩
  · simp [Value.ownBlock] at hv
  · simp only [Value.ownBlock, Option.some.injEq] at hv
    subst hv
    rw [hg] at hk
    injection hk with hk
    injection hk with _ h2
    exact ht h2.symm
theorem own_ne {w : World} {base b2 e e' s s' : Nat} {v u : Value} {n m : Nat} {xs ys : List Value} (he : e ≠ e') (hv : w.ownsRow base e s v n xs) (hu : w.ownsRow b2 e' s' u m ys) {k : Nat} (hk : v.ownBlock = some k) : u.ownBlock ≠ some k := by
  rcases hv.2 with ⟨rfl, _⟩ | ⟨g, cap, cur, rfl, _, hg, _⟩
  · simp [Value.ownBlock] at hk
  · simp only [Value.ownBlock, Option.some.injEq] at hk
    subst hk
    exact own_typed hu hg he
/-- the three rows of a tree. -/
structure TOwn (B : Nat) (w : World) (g : Nat) (lv ov nv : Value) (L : List Bx) (O : List Int) (N : List Nd) : Prop where
  l : OwnX w B lv L
  o : OwnI w B ov O
  n : OwnN w B nv N
  low : B ≤ g
structure TMem (B : Nat) (w : World) (g : Nat) (lv ov nv : Value) (L : List Bx) (O : List Int) (N : List Nd) : Prop where
  row : TreeRow w g lv ov nv
  own : TOwn B w g lv ov nv L O N
/-- what stays: all that was there but the struct and the rows of the order and of the parts. -/
structure Kp (g : Nat) (ov nv nv' : Value) (W w : World) : Prop where
  os : w.os = W.os
  tape : w.tape = W.tape
  output : w.output = W.output
  size : W.heap.size ≤ w.heap.size
  keep : ∀ k, k < W.heap.size → k ≠ g → ov.ownBlock ≠ some k → nv.ownBlock ≠ some k → w.heap[k]? = W.heap[k]?
  fresh : ∀ k, nv'.ownBlock = some k → W.heap.size ≤ k ∨ nv.ownBlock = some k
theorem Kp.refl (g : Nat) (ov nv : Value) (W : World) : Kp g ov nv nv W W := ⟨rfl, rfl, rfl, Nat.le_refl _, fun _ _ _ _ _ => rfl, fun _ h => .inr h⟩
theorem Kp.trans {g : Nat} {ov nv n1 n2 : Value} {W w1 w2 : World} (h : Kp g ov nv n1 W w1) (k : Kp g ov n1 n2 w1 w2) : Kp g ov nv n2 W w2 := by
  refine ⟨k.os.trans h.os, k.tape.trans h.tape, k.output.trans h.output, Nat.le_trans h.size k.size, fun j hj hg ho hn => ?_, fun j hj => ?_⟩
  · refine (k.keep j (Nat.lt_of_lt_of_le hj h.size) hg ho fun e => ?_).trans (h.keep j hj hg ho hn)
    rcases h.fresh j e with h1 | h1
    · omega
    · exact hn h1
  · rcases k.fresh j hj with h1 | h1
    · exact .inl (Nat.le_trans h.size h1)
    · exact h.fresh j h1
theorem Kp.grew {g : Nat} {ov nv n1 : Value} {W w1 w2 : World} (h : Kp g ov nv n1 W w1) (k : Below w1.heap.size w1 w2) : Kp g ov nv n1 W w2 :=
  ⟨k.os.trans h.os, k.tape.trans h.tape, k.output.trans h.output, Nat.le_trans h.size k.size, fun j hj hg ho hn => (k.block j (Nat.lt_of_lt_of_le hj h.size)).trans (h.keep j hj hg ho hn), h.fresh⟩
theorem Kp.typed {B g : Nat} {lv ov nv nv' : Value} {W w : World} {L : List Bx} {O : List Int} {N : List Nd} (h : Kp g ov nv nv' W w) (hm : TMem B W g lv ov nv L O N) {k t : Nat} {c : Array Value} (hk : W.heap[k]? = some (.cells c t (0, 0))) (h1 : t ≠ 88) (h2 : t ≠ 3) (h3 : t ≠ 126) : w.heap[k]? = some (.cells c t (0, 0)) := by
  refine (h.keep k (heap_lt2 hk) (fun e => ?_) (own_typed hm.own.o hk h2) (own_typed hm.own.n hk h3)).trans hk
  subst e
  rw [hm.row] at hk
  injection hk with hk
  injection hk with _ e
  exact h1 e.symm
theorem Kp.below {B g : Nat} {lv ov nv nv' : Value} {W w : World} {L : List Bx} {O : List Int} {N : List Nd} (h : Kp g ov nv nv' W w) (hm : TMem B W g lv ov nv L O N) : Below B W w :=
  ⟨h.os, h.tape, h.output, h.size, fun k hk => by
    have hg := heap_lt2 hm.row
    have hl := hm.own.low
    exact h.keep k (by omega) (by omega) (fun e => by have := (own_ltB hm.own.o e).1; omega) (fun e => by have := (own_ltB hm.own.n e).1; omega)⟩
theorem TOwn.later {B g : Nat} {w w' : World} {lv ov nv : Value} {L : List Bx} {O : List Int} {N : List Nd} (h : TOwn B w g lv ov nv L O N) (hb : Below w.heap.size w w') : TOwn B w' g lv ov nv L O N := ⟨h.l.later hb, h.o.later hb, h.n.later hb, h.low⟩
theorem TMem.later {B g : Nat} {w w' : World} {lv ov nv : Value} {L : List Bx} {O : List Int} {N : List Nd} (h : TMem B w g lv ov nv L O N) (hb : Below w.heap.size w w') : TMem B w' g lv ov nv L O N := ⟨h.row.later hb, h.own.later hb⟩
/-- a step that turns the struct's own block. -/
theorem TOwn.set {B g o t : Nat} {w : World} {lv ov nv u : Value} {L : List Bx} {O : List Int} {N : List Nd} {c : Array Value} (h : TOwn B w g lv ov nv L O N) (hg : w.heap[g]? = some (.cells c t (0, 0))) (ht : t = 88) : TOwn B (w.setCell ⟨g, o, none⟩ u) g lv ov nv L O N := by
  subst ht
  have hk : ∀ k, k ≠ g → (w.setCell ⟨g, o, none⟩ u).heap[k]? = w.heap[k]? := fun k hk => Below.heap_setCell _ _ _ _ hk
  refine ⟨ownsRow_move h.l fun k e => hk k fun e2 => ?_, ownsRow_move h.o fun k e => hk k fun e2 => ?_, ownsRow_move h.n fun k e => hk k fun e2 => ?_, h.low⟩
  · subst e2; exact own_typed h.l hg (by decide) e
  · subst e2; exact own_typed h.o hg (by decide) e
  · subst e2; exact own_typed h.n hg (by decide) e
theorem TreeRow.set3 {w : World} {g : Nat} {lv ov nv : Value} (h : TreeRow w g lv ov nv) (u : Value) : TreeRow (w.setCell ⟨g, 3, none⟩ u) g lv ov u := heap_setCell_same _ _ 3 _ _ u h
theorem TreeRow.frozen {w : World} {g : Nat} {lv ov nv : Value} (h : TreeRow w g lv ov nv) (o : Nat) : w.frozen? ⟨g, o, none⟩ = false := frozen_of_row _ _ _ _ _ h
theorem Kp.set {g o : Nat} {ov nv n1 u : Value} {W w : World} (h : Kp g ov nv n1 W w) : Kp g ov nv n1 W (w.setCell ⟨g, o, none⟩ u) := by
  have hs := ((Below.refl 0 w).setCell (p := ⟨g, o, none⟩) (Nat.zero_le _) u)
  exact ⟨hs.os.trans h.os, hs.tape.trans h.tape, hs.output.trans h.output, Nat.le_trans h.size hs.size, fun k hk hg ho hn => (Below.heap_setCell _ _ _ _ hg).trans (h.keep k hk hg ho hn), h.fresh⟩
/-- the row of the parts grows. -/
theorem TOwn.growN {B g : Nat} {w w' : World} {lv ov nv n1 : Value} {L : List Bx} {O : List Int} {N M : List Nd} (h : TOwn B w g lv ov nv L O N) (hn : OwnN w' B n1 M) (hg : w.grownBy w' nv.ownBlock) : TOwn B w' g lv ov n1 L O M := by
  refine ⟨World.ownsRow.kept h.l hg (own_apart (by decide) h.n h.l), World.ownsRow.kept h.o hg (own_apart (by decide) h.n h.o), hn, h.low⟩
theorem TreeRow.grown {B g : Nat} {w w' : World} {lv ov nv : Value} {L : List Bx} {O : List Int} {N : List Nd} (h : TreeRow w g lv ov nv) (ho : TOwn B w g lv ov nv L O N) (hg : w.grownBy w' nv.ownBlock) : TreeRow w' g lv ov nv :=
  (hg.block g (heap_lt2 h) (fun e => own_typed ho.n h (by decide) e.symm)).trans h
theorem Kp.grown {g : Nat} {ov nv n1 n2 : Value} {W w w' : World} (h : Kp g ov nv n1 W w) (hg : w.grownBy w' n1.ownBlock) (hf : ∀ k, n2.ownBlock = some k → w.heap.size ≤ k ∨ n1.ownBlock = some k) : Kp g ov nv n2 W w' := by
  refine ⟨hg.os.trans h.os, hg.tape.trans h.tape, hg.output.trans h.output, Nat.le_trans h.size hg.size, fun k hk hkg ho hn => ?_, fun k hk => ?_⟩
  · refine (hg.block k (Nat.lt_of_lt_of_le hk h.size) fun e => ?_).trans (h.keep k hk hkg ho hn)
    rcases h.fresh k e.symm with h1 | h1
    · omega
    · exact hn h1
  · rcases hf k hk with h1 | h1
    · exact .inl (Nat.le_trans h.size h1)
    · exact h.fresh k h1
/-- the stages of 't.nodes = append(t.nodes, node{})'. -/
def StN (W : World) (B g : Nat) (lv ov nv n0 : Value) (L : List Bx) (O : List Int) (N : List Nd) (C : World → Prop) : List Value → World → Prop
  | [], w => TMem B w g lv ov nv L O N ∧ Kp g ov n0 nv W w ∧ C w
  | [a], w => TMem B w g lv ov nv L O N ∧ Kp g ov n0 nv W w ∧ C w ∧ ∃ k, a = .slice (some ⟨k, 0, none⟩) 1 1 ∧ IsN w (some ⟨k, 0, none⟩) 1 1 [nd0]
  | [_, b], w => TreeRow w g lv ov nv ∧ TOwn B w g lv ov b L O (N ++ [nd0]) ∧ Kp g ov n0 b W w ∧ C w
  | [_, b, _], w => TMem B w g lv ov b L O (N ++ [nd0]) ∧ Kp g ov n0 b W w ∧ C w
  | _, _ => False
end Go.Proofs.YtjiiikeniocmfaaGreat
