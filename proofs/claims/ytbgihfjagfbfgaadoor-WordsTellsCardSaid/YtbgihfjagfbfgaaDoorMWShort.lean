/- layer 16: words.Short, Long, All -/
import Derived.Test.YtbgihfjagfbfgaaDoorMWOf
set_option linter.unusedSimpArgs false
set_option linter.unusedVariables false
namespace Go.Proofs.YtbgihfjagfbfgaaDoor
open Go.RowKit Go.Words
attribute [local go_sem] Oper.semAt_some
theorem fieldT0 (a b c : Value) (w : World) : (Instr.field 39 (.agg #[a, b, c]) 0).run Tryd.prog w = .ok a w := by kernel_rfl
theorem fieldT1 (a b c : Value) (w : World) : (Instr.field 39 (.agg #[a, b, c]) 1).run Tryd.prog w = .ok b w := by kernel_rfl
theorem fieldT2 (a b c : Value) (w : World) : (Instr.field 39 (.agg #[a, b, c]) 2).run Tryd.prog w = .ok c w := by kernel_rfl
set_option maxRecDepth 100000 in
set_option maxHeartbeats 2000000 in
theorem Short_any (k : Int) (l : Wd) (w : World) (h : Tb w) : Calls Tryd.prog 9 #[.int .i64 k, sV l] w fun e w' => e = .returned (foundV (shortF (kindP k) l)) ∧ Below w.heap.size w w' := by
  have HO := Lib.hid (of_any k w h)
  obtain ⟨x, hx⟩ : ∃ x, x = shortF (kindP k) l := ⟨_, rfl⟩
  rw [← hx]
  have HX := Lib.hid hx
  clear h hx
  go_enter Tryd.func9, Tryd.ntmps9
  go_wp2_with fail
  refine HO.out.mono ?_
  rintro e w1 ⟨m1, m2, v, rfl, h1, h2, h3, hb⟩
  have hl := h1.look l
  rw [← HX.out] at hl
  have HB := Lib.hid hb
  clear h1 h2 h3 hb
  have hr := alloc_new w1 (Obj.cells #[.string ⟨#[]⟩] 35)
  have k0 : (w1.alloc (Obj.cells #[.string ⟨#[]⟩] 35)).cell? ⟨w1.heap.size, 0, none⟩ = some (.string ⟨#[]⟩) := cell_of_row _ _ _ _ _ _ hr
  have f0 : (w1.alloc (Obj.cells #[.string ⟨#[]⟩] 35)).frozen? ⟨w1.heap.size, 0, none⟩ = false := frozen_of_row _ _ _ _ _ hr
  clear hr
  have hfd0 := fieldT0 (.map m1) (.map m2) v w1
  have hfd1 := fieldT1 (.map m1) (.map m2) v w1
  go_wp2_with fail
  go_ret2
  exact ⟨rfl, HB.out.alloc HB.out.size _⟩
set_option maxRecDepth 100000 in
set_option maxHeartbeats 2000000 in
theorem Long_any (k : Int) (l : Wd) (w : World) (h : Tb w) : Calls Tryd.prog 10 #[.int .i64 k, sV l] w fun e w' => e = .returned (foundV (longF (kindP k) l)) ∧ Below w.heap.size w w' := by
  have HO := Lib.hid (of_any k w h)
  obtain ⟨x, hx⟩ : ∃ x, x = longF (kindP k) l := ⟨_, rfl⟩
  rw [← hx]
  have HX := Lib.hid hx
  clear h hx
  go_enter Tryd.func10, Tryd.ntmps10
  go_wp2_with fail
  refine HO.out.mono ?_
  rintro e w1 ⟨m1, m2, v, rfl, h1, h2, h3, hb⟩
  have hl := h2.look l
  rw [← HX.out] at hl
  have HB := Lib.hid hb
  clear h1 h2 h3 hb
  have hr := alloc_new w1 (Obj.cells #[.string ⟨#[]⟩] 35)
  have k0 : (w1.alloc (Obj.cells #[.string ⟨#[]⟩] 35)).cell? ⟨w1.heap.size, 0, none⟩ = some (.string ⟨#[]⟩) := cell_of_row _ _ _ _ _ _ hr
  have f0 : (w1.alloc (Obj.cells #[.string ⟨#[]⟩] 35)).frozen? ⟨w1.heap.size, 0, none⟩ = false := frozen_of_row _ _ _ _ _ hr
  clear hr
  have hfd0 := fieldT0 (.map m1) (.map m2) v w1
  have hfd1 := fieldT1 (.map m1) (.map m2) v w1
  go_wp2_with fail
  go_ret2
  exact ⟨rfl, HB.out.alloc HB.out.size _⟩
set_option maxRecDepth 100000 in
set_option maxHeartbeats 2000000 in
theorem All_any (k : Int) (w : World) (h : Tb w) (hl : (sortW (kindP k)).length ≤ 1000) : Calls Tryd.prog 13 #[.int .i64 k] w fun e w' => ∃ v, e = .returned v ∧ OwnS w' w.heap.size v (sortW (kindP k)) ∧ Below w.heap.size w w' := by
  have HO := Lib.hid (of_any k w h)
  have HL := Lib.hid hl
  clear h hl
  go_enter Tryd.func13, Tryd.ntmps13
  go_wp2_with fail
  refine HO.out.mono ?_
  rintro e w1 ⟨m1, m2, v, rfl, h1, h2, h3, hb⟩
  have hfd2 := fieldT2 (.map m1) (.map m2) v w1
  obtain ⟨va, vc, hvv, hvi⟩ := h3.strs
  obtain ⟨vn, hvn⟩ : ∃ k', k' = (sortW (kindP k)).length := ⟨_, rfl⟩
  rw [← hvn] at hvv hvi
  subst hvv
  have HB := Lib.hid hb
  have HC := Lib.hid (Clone_strs va vn vc (sortW (kindP k)) w1 hvi (by rw [hvn]; have := HL.out; omega))
  clear h1 h2 h3 hb hvi hvn
  go_wp2_with fail
  refine HC.out.mono ?_
  rintro e w2 ⟨v2, rfl, ho, hb2⟩
  have HO2 := Lib.hid (ho.base HB.out.size)
  have HB2 := Lib.hid (HB.out.trans (hb2.mono HB.out.size))
  clear ho hb2
  go_wp2_with fail
  go_ret
  exact ⟨_, rfl, HO2.out, HB2.out⟩
end Go.Proofs.YtbgihfjagfbfgaaDoor
