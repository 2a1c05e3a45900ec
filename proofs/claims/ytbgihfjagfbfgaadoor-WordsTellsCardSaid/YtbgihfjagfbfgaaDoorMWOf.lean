/- layer 16: words.of, Short, Long, All -/
import Derived.Test.YtbgihfjagfbfgaaDoorMWCut
set_option linter.unusedSimpArgs false
set_option linter.unusedVariables false
namespace Go.Proofs.YtbgihfjagfbfgaaDoor
open Go.RowKit Go.Words
attribute [local go_sem] Oper.semAt_some
/-- the pairs of a kind. -/
def kindP (k : Int) : List Pr := if k = 1 then sufP else if k = 2 then dirP else if k = 3 then staP else if k = 4 then uniP else []
def MapO (w : World) : Option Nat → (Wd → Option Wd) → Prop
  | none, f => f = fun _ => none
  | some m, f => MapIs w m f
theorem MapO.later {w w' : World} {m : Option Nat} {f : Wd → Option Wd} (h : MapO w m f) (hb : Below w.heap.size w w') : MapO w' m f := by
  cases m with
  | none => exact h
  | some m => exact MapIs.later h hb
def sortW (P : List Pr) : List Wd := (P.map (·.2)).mergeSort fun x y => decide (x ≤ y)
def OfR (P : List Pr) (w : World) (e : Ending) (w' : World) : Prop := ∃ m1 m2 v, e = .returned (.agg #[.map m1, .map m2, v]) ∧ MapO w' m1 (shortF P) ∧ MapO w' m2 (longF P) ∧ OwnS w' w.heap.size v (sortW P) ∧ Below w.heap.size w w'
theorem calls_arg {P : Program} {f : FuncId} {a b : Value} {w : World} {K : Ending → World → Prop} (e : b = a) (h : Calls P f #[a] w K) : Calls P f #[b] w K := e ▸ h
theorem cutKind (T : Wd) (P : List Pr) (w : World) (h : Tb w) (hP : cutP T = P) (hT : T.length ≤ 100000) (ha : T.all (fun b => decide (b.toNat < 128)) = true) (hn : P.length ≤ 1000) (hlen : (Lib.fields T).all (fun f => decide (f.length ≤ 1000)) = true) :
    Calls Tryd.prog 21 #[sV T] w (OfR P w) := by
  refine (cut_any T _ P w h rfl hP hT ha hn hlen).mono ?_
  rintro e w' ⟨m1, m2, v, he, h1, h2, h3, h4⟩
  exact ⟨some m1, some m2, v, he, h1, h2, h3, h4⟩
theorem of_end (P : List Pr) (w w1 : World) (m1 m2 : Option Nat) (va : Option Addr) (vn vc : Nat) (hr : w1.heap[w.heap.size]? = some (.cells #[.map none, .map none, .slice none 0 0] 39 (0, 0))) (h1 : MapO w1 m1 (shortF P)) (h2 : MapO w1 m2 (longF P)) (h3 : OwnS w1 w.heap.size (.slice va vn vc) (sortW P)) (hb : Below w.heap.size w w1)
    {fn : Func} (hf : fn.results = #[.cell 2 39]) {a : Act} (hd : a.defers = []) (hp : a.tmps.getD 2 undef = .pointer (some ⟨w.heap.size, 0, none⟩)) :
    bodyPost Tryd.prog fn (OfR P w) Exit.ret a (((w1.setCell ⟨w.heap.size, 0, none⟩ (.map m1)).setCell ⟨w.heap.size, 1, none⟩ (.map m2)).setCell ⟨w.heap.size, 2, none⟩ (.slice va vn vc)) := by
  have q1 := heap_setCell_same _ _ 0 _ _ (.map m1) hr
  have q2 := heap_setCell_same _ _ 1 _ _ (.map m2) q1
  have q3 := heap_setCell_same _ _ 2 _ _ (.slice va vn vc) q2
  have hot : ∀ k, k ≠ w.heap.size → (((w1.setCell ⟨w.heap.size, 0, none⟩ (.map m1)).setCell ⟨w.heap.size, 1, none⟩ (.map m2)).setCell ⟨w.heap.size, 2, none⟩ (.slice va vn vc)).heap[k]? = w1.heap[k]? := fun k hk => by
    rw [Below.heap_setCell _ _ _ _ hk, Below.heap_setCell _ _ _ _ hk, Below.heap_setCell _ _ _ _ hk]
  have mo : ∀ (m : Option Nat) (f : Wd → Option Wd), MapO w1 m f → MapO (((w1.setCell ⟨w.heap.size, 0, none⟩ (.map m1)).setCell ⟨w.heap.size, 1, none⟩ (.map m2)).setCell ⟨w.heap.size, 2, none⟩ (.slice va vn vc)) m f := fun m f h => by
    cases m with
    | none => exact h
    | some m =>
      obtain ⟨M, c, e1, e2⟩ := h
      refine MapIs.move ⟨M, c, e1, e2⟩ (hot m (fun e => ?_))
      rw [e] at e1
      rw [e1] at hr
      cases hr
  exact bodyPost_ret (results_cell_row hf _ _ _ _ _ _ _ hp q3 Tryd.underlying39 rfl (by kernel_rfl)) hd ⟨m1, m2, _, rfl, mo m1 _ h1, mo m2 _ h2,
    ownsRow_move h3 fun k e => hot k (fun e2 => by subst e2; exact own_typed h3 hr (by decide) e),
    ((hb.setCell (p := ⟨w.heap.size, 0, none⟩) (Nat.le_refl _) _).setCell (p := ⟨w.heap.size, 1, none⟩) (Nat.le_refl _) _).setCell (p := ⟨w.heap.size, 2, none⟩) (Nat.le_refl _) _⟩
set_option maxRecDepth 100000 in
set_option maxHeartbeats 4000000 in
theorem of_any (k : Int) (w : World) (h : Tb w) : Calls Tryd.prog 18 #[.int .i64 k] w (OfR (kindP k) w) := by
  have HT := Lib.hid h
  clear h
  by_cases hk : 0 ≤ k ∧ k < 5
  · have hcases : k = 0 ∨ k = 1 ∨ k = 2 ∨ k = 3 ∨ k = 4 := by omega
    clear hk
    rcases hcases with rfl | rfl | rfl | rfl | rfl
    · rw [show kindP 0 = [] from rfl]
      go_enter Tryd.func18, Tryd.ntmps18
      go_wp2_with fail
      refine calls_arg (a := sV []) (by kernel_rfl) ?_
      refine (cutKind [] [] _ (HT.out.later (((Below.refl w.heap.size w).alloc (Nat.le_refl _) _).alloc (by simp) _)) rfl (by decide +kernel) (by decide +kernel) (by decide +kernel) (by decide +kernel)).mono ?_
      rintro e w1 ⟨m1, m2, v, rfl, h1, h2, h3, hb⟩
      have hr := (hb.block w.heap.size (by simp; omega)).trans ((Below.heap_alloc _ _ _ (by simp)).trans (alloc_new w (Obj.cells #[.map none, .map none, .slice none 0 0] 39)))
      have HB1 := Lib.hid ((((Below.refl w.heap.size w).alloc (Nat.le_refl _) _).alloc (by simp) _).trans (hb.mono (by simp; omega)))
      have HO := Lib.hid (h3.base (show w.heap.size ≤ _ by simp; omega))
      have HM := Lib.hid (And.intro h1 h2)
      clear hb h1 h2 h3
      obtain ⟨va, vc, hvv, _⟩ := HO.out.strs
      obtain ⟨vn, hvn⟩ : ∃ k, k = (sortW []).length := ⟨_, rfl⟩
      rw [← hvn] at hvv
      subst hvv
      have k0 : w1.cell? ⟨w.heap.size, 0, none⟩ = some (.map none) := cell_of_row _ _ _ _ _ _ hr
      have k1 : w1.cell? ⟨w.heap.size, 1, none⟩ = some (.map none) := cell_of_row _ _ _ _ _ _ hr
      have k2 : w1.cell? ⟨w.heap.size, 2, none⟩ = some (.slice none 0 0) := cell_of_row _ _ _ _ _ _ hr
      have f0 : w1.frozen? ⟨w.heap.size, 0, none⟩ = false := frozen_of_row _ _ _ _ _ hr
      have f1 : w1.frozen? ⟨w.heap.size, 1, none⟩ = false := frozen_of_row _ _ _ _ _ hr
      have f2 : w1.frozen? ⟨w.heap.size, 2, none⟩ = false := frozen_of_row _ _ _ _ _ hr
      have HR2 := Lib.hid hr
      clear hr hvn
      go_wp2_with fail
      exact of_end [] w w1 m1 m2 va vn vc HR2.out HM.out.1 HM.out.2 HO.out HB1.out rfl rfl rfl
    · rw [show kindP 1 = sufP from rfl]
      go_enter Tryd.func18, Tryd.ntmps18
      go_wp2_with fail
      refine calls_arg (a := sV sufT) (by kernel_rfl) ?_
      refine (cutKind sufT sufP _ (HT.out.later (((Below.refl w.heap.size w).alloc (Nat.le_refl _) _).alloc (by simp) _)) suf_cut (by decide +kernel) (by decide +kernel) (by decide +kernel) (by decide +kernel)).mono ?_
      rintro e w1 ⟨m1, m2, v, rfl, h1, h2, h3, hb⟩
      have hr := (hb.block w.heap.size (by simp; omega)).trans ((Below.heap_alloc _ _ _ (by simp)).trans (alloc_new w (Obj.cells #[.map none, .map none, .slice none 0 0] 39)))
      have HB1 := Lib.hid ((((Below.refl w.heap.size w).alloc (Nat.le_refl _) _).alloc (by simp) _).trans (hb.mono (by simp; omega)))
      have HO := Lib.hid (h3.base (show w.heap.size ≤ _ by simp; omega))
      have HM := Lib.hid (And.intro h1 h2)
      clear hb h1 h2 h3
      obtain ⟨va, vc, hvv, _⟩ := HO.out.strs
      obtain ⟨vn, hvn⟩ : ∃ k, k = (sortW sufP).length := ⟨_, rfl⟩
      rw [← hvn] at hvv
      subst hvv
      have k0 : w1.cell? ⟨w.heap.size, 0, none⟩ = some (.map none) := cell_of_row _ _ _ _ _ _ hr
      have k1 : w1.cell? ⟨w.heap.size, 1, none⟩ = some (.map none) := cell_of_row _ _ _ _ _ _ hr
      have k2 : w1.cell? ⟨w.heap.size, 2, none⟩ = some (.slice none 0 0) := cell_of_row _ _ _ _ _ _ hr
      have f0 : w1.frozen? ⟨w.heap.size, 0, none⟩ = false := frozen_of_row _ _ _ _ _ hr
      have f1 : w1.frozen? ⟨w.heap.size, 1, none⟩ = false := frozen_of_row _ _ _ _ _ hr
      have f2 : w1.frozen? ⟨w.heap.size, 2, none⟩ = false := frozen_of_row _ _ _ _ _ hr
      have HR2 := Lib.hid hr
      clear hr hvn
      go_wp2_with fail
      exact of_end sufP w w1 m1 m2 va vn vc HR2.out HM.out.1 HM.out.2 HO.out HB1.out rfl rfl rfl
    · rw [show kindP 2 = dirP from rfl]
      go_enter Tryd.func18, Tryd.ntmps18
      go_wp2_with fail
      refine calls_arg (a := sV dirT) (by kernel_rfl) ?_
      refine (cutKind dirT dirP _ (HT.out.later (((Below.refl w.heap.size w).alloc (Nat.le_refl _) _).alloc (by simp) _)) dir_cut (by decide +kernel) (by decide +kernel) (by decide +kernel) (by decide +kernel)).mono ?_
      rintro e w1 ⟨m1, m2, v, rfl, h1, h2, h3, hb⟩
      have hr := (hb.block w.heap.size (by simp; omega)).trans ((Below.heap_alloc _ _ _ (by simp)).trans (alloc_new w (Obj.cells #[.map none, .map none, .slice none 0 0] 39)))
      have HB1 := Lib.hid ((((Below.refl w.heap.size w).alloc (Nat.le_refl _) _).alloc (by simp) _).trans (hb.mono (by simp; omega)))
      have HO := Lib.hid (h3.base (show w.heap.size ≤ _ by simp; omega))
      have HM := Lib.hid (And.intro h1 h2)
      clear hb h1 h2 h3
      obtain ⟨va, vc, hvv, _⟩ := HO.out.strs
      obtain ⟨vn, hvn⟩ : ∃ k, k = (sortW dirP).length := ⟨_, rfl⟩
      rw [← hvn] at hvv
      subst hvv
      have k0 : w1.cell? ⟨w.heap.size, 0, none⟩ = some (.map none) := cell_of_row _ _ _ _ _ _ hr
      have k1 : w1.cell? ⟨w.heap.size, 1, none⟩ = some (.map none) := cell_of_row _ _ _ _ _ _ hr
      have k2 : w1.cell? ⟨w.heap.size, 2, none⟩ = some (.slice none 0 0) := cell_of_row _ _ _ _ _ _ hr
      have f0 : w1.frozen? ⟨w.heap.size, 0, none⟩ = false := frozen_of_row _ _ _ _ _ hr
      have f1 : w1.frozen? ⟨w.heap.size, 1, none⟩ = false := frozen_of_row _ _ _ _ _ hr
      have f2 : w1.frozen? ⟨w.heap.size, 2, none⟩ = false := frozen_of_row _ _ _ _ _ hr
      have HR2 := Lib.hid hr
      clear hr hvn
      go_wp2_with fail
      exact of_end dirP w w1 m1 m2 va vn vc HR2.out HM.out.1 HM.out.2 HO.out HB1.out rfl rfl rfl
    · rw [show kindP 3 = staP from rfl]
      go_enter Tryd.func18, Tryd.ntmps18
      go_wp2_with fail
      refine calls_arg (a := sV staT) (by kernel_rfl) ?_
      refine (cutKind staT staP _ (HT.out.later (((Below.refl w.heap.size w).alloc (Nat.le_refl _) _).alloc (by simp) _)) sta_cut (by decide +kernel) (by decide +kernel) (by decide +kernel) (by decide +kernel)).mono ?_
      rintro e w1 ⟨m1, m2, v, rfl, h1, h2, h3, hb⟩
      have hr := (hb.block w.heap.size (by simp; omega)).trans ((Below.heap_alloc _ _ _ (by simp)).trans (alloc_new w (Obj.cells #[.map none, .map none, .slice none 0 0] 39)))
      have HB1 := Lib.hid ((((Below.refl w.heap.size w).alloc (Nat.le_refl _) _).alloc (by simp) _).trans (hb.mono (by simp; omega)))
      have HO := Lib.hid (h3.base (show w.heap.size ≤ _ by simp; omega))
      have HM := Lib.hid (And.intro h1 h2)
      clear hb h1 h2 h3
      obtain ⟨va, vc, hvv, _⟩ := HO.out.strs
      obtain ⟨vn, hvn⟩ : ∃ k, k = (sortW staP).length := ⟨_, rfl⟩
      rw [← hvn] at hvv
      subst hvv
      have k0 : w1.cell? ⟨w.heap.size, 0, none⟩ = some (.map none) := cell_of_row _ _ _ _ _ _ hr
      have k1 : w1.cell? ⟨w.heap.size, 1, none⟩ = some (.map none) := cell_of_row _ _ _ _ _ _ hr
      have k2 : w1.cell? ⟨w.heap.size, 2, none⟩ = some (.slice none 0 0) := cell_of_row _ _ _ _ _ _ hr
      have f0 : w1.frozen? ⟨w.heap.size, 0, none⟩ = false := frozen_of_row _ _ _ _ _ hr
      have f1 : w1.frozen? ⟨w.heap.size, 1, none⟩ = false := frozen_of_row _ _ _ _ _ hr
      have f2 : w1.frozen? ⟨w.heap.size, 2, none⟩ = false := frozen_of_row _ _ _ _ _ hr
      have HR2 := Lib.hid hr
      clear hr hvn
      go_wp2_with fail
      exact of_end staP w w1 m1 m2 va vn vc HR2.out HM.out.1 HM.out.2 HO.out HB1.out rfl rfl rfl
    · rw [show kindP 4 = uniP from rfl]
      go_enter Tryd.func18, Tryd.ntmps18
      go_wp2_with fail
      refine calls_arg (a := sV uniT) (by kernel_rfl) ?_
      refine (cutKind uniT uniP _ (HT.out.later (((Below.refl w.heap.size w).alloc (Nat.le_refl _) _).alloc (by simp) _)) uni_cut (by decide +kernel) (by decide +kernel) (by decide +kernel) (by decide +kernel)).mono ?_
      rintro e w1 ⟨m1, m2, v, rfl, h1, h2, h3, hb⟩
      have hr := (hb.block w.heap.size (by simp; omega)).trans ((Below.heap_alloc _ _ _ (by simp)).trans (alloc_new w (Obj.cells #[.map none, .map none, .slice none 0 0] 39)))
      have HB1 := Lib.hid ((((Below.refl w.heap.size w).alloc (Nat.le_refl _) _).alloc (by simp) _).trans (hb.mono (by simp; omega)))
      have HO := Lib.hid (h3.base (show w.heap.size ≤ _ by simp; omega))
      have HM := Lib.hid (And.intro h1 h2)
      clear hb h1 h2 h3
      obtain ⟨va, vc, hvv, _⟩ := HO.out.strs
      obtain ⟨vn, hvn⟩ : ∃ k, k = (sortW uniP).length := ⟨_, rfl⟩
      rw [← hvn] at hvv
      subst hvv
      have k0 : w1.cell? ⟨w.heap.size, 0, none⟩ = some (.map none) := cell_of_row _ _ _ _ _ _ hr
      have k1 : w1.cell? ⟨w.heap.size, 1, none⟩ = some (.map none) := cell_of_row _ _ _ _ _ _ hr
      have k2 : w1.cell? ⟨w.heap.size, 2, none⟩ = some (.slice none 0 0) := cell_of_row _ _ _ _ _ _ hr
      have f0 : w1.frozen? ⟨w.heap.size, 0, none⟩ = false := frozen_of_row _ _ _ _ _ hr
      have f1 : w1.frozen? ⟨w.heap.size, 1, none⟩ = false := frozen_of_row _ _ _ _ _ hr
      have f2 : w1.frozen? ⟨w.heap.size, 2, none⟩ = false := frozen_of_row _ _ _ _ _ hr
      have HR2 := Lib.hid hr
      clear hr hvn
      go_wp2_with fail
      exact of_end uniP w w1 m1 m2 va vn vc HR2.out HM.out.1 HM.out.2 HO.out HB1.out rfl rfl rfl
  · have hP : kindP k = [] := by unfold kindP; rw [if_neg (by omega), if_neg (by omega), if_neg (by omega), if_neg (by omega)]
    rw [hP]
    clear hP
    by_cases hneg : k < 0
    · clear hk
      go_enter Tryd.func18, Tryd.ntmps18
      go_wp2_with fail
      exact bodyPost_ret (results_cell_row rfl _ _ _ _ _ _ _ rfl ((Below.heap_alloc _ _ _ (by simp)).trans (alloc_new w (Obj.cells #[.map none, .map none, .slice none 0 0] 39))) Tryd.underlying39 rfl (by kernel_rfl)) rfl ⟨none, none, _, rfl, rfl, rfl, by rw [show sortW [] = [] by simp [sortW]]; exact OwnS.nil _ _, ((Below.refl w.heap.size w).alloc (Nat.le_refl _) _).alloc (by simp) _⟩
    · have hge : (5 : Int) ≤ k := by omega
      clear hk
      go_enter Tryd.func18, Tryd.ntmps18
      go_wp2_with fail
      exact bodyPost_ret (results_cell_row rfl _ _ _ _ _ _ _ rfl ((Below.heap_alloc _ _ _ (by simp)).trans (alloc_new w (Obj.cells #[.map none, .map none, .slice none 0 0] 39))) Tryd.underlying39 rfl (by kernel_rfl)) rfl ⟨none, none, _, rfl, rfl, rfl, by rw [show sortW [] = [] by simp [sortW]]; exact OwnS.nil _ _, ((Below.refl w.heap.size w).alloc (Nat.le_refl _) _).alloc (by simp) _⟩
def foundV (f : Option Wd) : Value := .tuple #[sV (f.getD []), .bool f.isSome]
theorem MapO.look {w : World} {m : Option Nat} {f : Wd → Option Wd} (h : MapO w m f) (l : Wd) : (Instr.lookup 37 (.map m) (sV l) true).run Tryd.prog w = .ok (.tuple #[fV (bs ((f l).getD [])), .bool (f l).isSome]) w := by
  cases m with
  | none =>
    have h : f = fun _ => none := h
    subst h
    exact look_nilW (bs l) w
  | some m => exact MapIs.look h l
end Go.Proofs.YtbgihfjagfbfgaaDoor
