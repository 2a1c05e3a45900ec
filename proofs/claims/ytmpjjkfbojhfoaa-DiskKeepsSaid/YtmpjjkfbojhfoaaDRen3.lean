/- disk: Rename; Steps -/
import Derived.Test.YtmpjjkfbojhfoaaDRen2
namespace Go.Proofs.Ytmpjjkfbojhfoaa
open Go.RowKit
set_option linter.unusedSectionVars false
variable [Zone]
set_option maxRecDepth 100000 in
theorem Rename_any (nm to : ByteArray) (d mb base f : Nat) (M : List Ent) (C : Cont) (st fu : Int) (w : World) (hb : base ≤ w.heap.size) (hnt : nameP to.data.toList = true) (h : DiskG w st fu false d mb base M C) (hfo : fileOf nm M = some f) :
    Calls Try.prog 27 #[.pointer (some ⟨d, 0, none⟩), .string nm, .string to] w fun e w' => ∃ z, e = .returned (.int .i64 z) ∧ (((C f).2 ≠ [] ∧ z = 9 ∧ DiskG w' st fu false d mb base M C) ∨ ((C f).2 = [] ∧ Stepped fu z (DiskG w' st fu true d mb base M C) (∃ c, DiskG w' (wrap64 (st + 1)) (dec fu) false d mb base (putE to f c (delE nm M)) C))) ∧ Kept d mb base w w' := by
  have HB := Lib.hid hb
  have HG := Lib.hid h
  have HFO := Lib.hid hfo
  have HNT := Lib.hid hnt
  clear hb h hfo hnt
  go_enter Try.func27, Try.ntmps27
  go_wp2_with fail
  generalize hX : ((w.alloc (.cells #[.pointer (some ⟨d, 0, none⟩)] 27)).alloc (.cells #[.string nm] 9)).alloc (.cells #[.string to] 9) = X
  have hx0 : X.heap[w.heap.size]? = some (.cells #[.pointer (some ⟨d, 0, none⟩)] 27 (0, 0)) := by
    rw [← hX, Below.heap_alloc _ _ _ (by simp; omega), Below.heap_alloc _ _ _ (by simp)]
    exact heap_alloc_new _ _
  have hx1 : X.heap[w.heap.size + 1]? = some (.cells #[.string nm] 9 (0, 0)) := by
    rw [← hX, Below.heap_alloc _ _ _ (by simp)]
    have := heap_alloc_new (w.alloc (.cells #[.pointer (some ⟨d, 0, none⟩)] 27)) (.cells #[.string nm] 9)
    simpa using this
  have hx2 : X.heap[w.heap.size + 1 + 1]? = some (.cells #[.string to] 9 (0, 0)) := by
    rw [← hX]
    have := heap_alloc_new ((w.alloc (.cells #[.pointer (some ⟨d, 0, none⟩)] 27)).alloc (.cells #[.string nm] 9)) (.cells #[.string to] 9)
    simpa using this
  have hbX : Below w.heap.size w X := by
    rw [← hX]
    exact (((Below.refl _ _).alloc (Nat.le_refl _) _).alloc (by simp) _).alloc (by simp; omega) _
  have hsX : X.heap.size = w.heap.size + 3 := by rw [← hX]; simp
  clear hX
  obtain ⟨N, hN⟩ : ∃ N, N = w.heap.size := ⟨_, rfl⟩
  rw [← hN] at hx0 hx1 hx2 hsX ⊢
  have HN := Lib.hid hN
  have c0 : X.cell? ⟨N, 0, none⟩ = some (.pointer (some ⟨d, 0, none⟩)) := cell_of_row _ _ _ _ _ _ hx0
  have c1 : X.cell? ⟨N + 1, 0, none⟩ = some (.string nm) := cell_of_row _ _ _ _ _ _ hx1
  have c2 : X.cell? ⟨N + 1 + 1, 0, none⟩ = some (.string to) := cell_of_row _ _ _ _ _ _ hx2
  have HGX := Lib.hid (HG.out.later hbX)
  have hbb : base ≤ X.heap.size := Nat.le_trans HB.out hbX.size
  have HK : Hid (Kept d mb base w X) := Lib.hid (.of_below hbX HB.out)
  have HXX := Lib.hid (And.intro hx0 (And.intro hx1 (And.intro hx2 (And.intro hsX hbb))))
  clear hx0 hx1 hx2 hbX hbb hsX hN
  refine (down_any d mb st fu X HGX.out.dm.2.2.1).mono ?_
  rintro e w' ⟨rfl, rfl⟩
  go_wp2_with fail
  refine (named_log _ HNT.out).mono ?_
  rintro e w' ⟨rfl, rfl⟩
  go_wp2_with fail
  obtain ⟨c, hm⟩ : ∃ c, X.heap[mb]? = some (.map (ents M) c) := ⟨_, HGX.out.dm.2.2.2.choose_spec.2⟩
  refine (open_log d mb c f M st fu X HGX.out.dm.2.2.1 hm HFO.out).mono ?_
  rintro e w' ⟨rfl, rfl⟩
  clear hm
  have hbY : Below X.heap.size X (X.alloc (.cells #[.pointer (some ⟨f, 0, none⟩)] 72)) := (Below.refl _ _).alloc (Nat.le_refl _) _
  have hy3 : (X.alloc (.cells #[.pointer (some ⟨f, 0, none⟩)] 72)).heap[X.heap.size]? = some (.cells #[.pointer (some ⟨f, 0, none⟩)] 72 (0, 0)) := heap_alloc_new _ _
  rw [HXX.out.2.2.2.1] at hy3
  have hgY : DiskG (X.alloc (.cells #[.pointer (some ⟨f, 0, none⟩)] 72)) st fu false d mb base M C := HGX.out.later hbY
  obtain ⟨⟨ao, n, cap, lv, hr, hs, hds⟩, q1, q2⟩ := (hgY.file HFO.out).2
  obtain ⟨al, capl, hlv, hdl⟩ := hds.deeds
  subst hlv
  have hdm := hdl.2.1
  have hdc := hdl.2.2.1
  unfold maxLen at hdc
  obtain ⟨m, hm⟩ : ∃ m, m = (C f).2.length := ⟨_, rfl⟩
  rw [← hm] at hr hdm
  have y4 : (X.alloc (.cells #[.pointer (some ⟨f, 0, none⟩)] 72)).cell? ⟨f, 1, none⟩ = some (.slice al m capl) := cell_of_row _ _ _ _ _ _ hr
  have HKY : Hid (Kept d mb base w (X.alloc (.cells #[.pointer (some ⟨f, 0, none⟩)] 72))) := Lib.hid (HK.out.trans (.of_below hbY HXX.out.2.2.2.2))
  have HY := Lib.hid (And.intro hgY (Nat.le_trans HXX.out.2.2.2.2 hbY.size))
  have HST := Lib.hid (ren_step nm to N (N + 1) (N + 3) (N + 1 + 1) d mb base f M C st fu _ HY.out.2 HNT.out HFO.out hy3 ((hbY.block _ (heap_lt HXX.out.2.2.1)).trans HXX.out.2.2.1) ((hbY.block _ (heap_lt HXX.out.1)).trans HXX.out.1) ((hbY.block _ (heap_lt HXX.out.2.1)).trans HXX.out.2.1) hgY)
  have HM := Lib.hid hm
  have hsX := HXX.out.2.2.2.1
  clear hbY hy3 hgY hr hs hds q1 q2 hdl hm
  by_cases h0 : (0 : Int) < (m : Int)
  · go_wp2_with fail
    go_ret
    exact ⟨9, rfl, .inl ⟨by have := HM.out; intro e; rw [e] at this; simp at this; omega, rfl, HY.out.1⟩, HKY.out⟩
  · go_wp2_with fail
    refine HST.out.mono ?_
    rintro e w' ⟨z, rfl, hs, hk⟩
    have HR := Lib.hid (And.intro hs (HKY.out.trans hk))
    clear hs hk
    go_wp2_with fail
    go_ret
    exact ⟨z, rfl, .inr ⟨List.eq_nil_of_length_eq_zero (by have := HM.out; omega), HR.out.1⟩, HR.out.2⟩
end Go.Proofs.Ytmpjjkfbojhfoaa
