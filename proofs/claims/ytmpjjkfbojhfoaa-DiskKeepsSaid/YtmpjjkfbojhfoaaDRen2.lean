/- disk: Rename, Remove, whole -/
import Derived.Test.YtmpjjkfbojhfoaaDRen
namespace Go.Proofs.Ytmpjjkfbojhfoaa
open Go.RowKit
set_option linter.unusedSectionVars false
variable [Zone]
theorem DiskG.same {w w' : World} {st fu st' fu' : Int} {out out' : Bool} {d mb base : Nat} {M : List Ent} {C : Cont} (h : DiskG w st fu out d mb base M C) (hb : base ≤ w.heap.size) (hos : w'.os = w.os ∧ w'.tape = w.tape ∧ w'.output = w.output) (hsz : w.heap.size ≤ w'.heap.size) (hbl : ∀ j, j < w.heap.size → j ≠ d → w'.heap[j]? = w.heap[j]?)
    (hd : DiskRow w' d mb st' fu' out') (hfu : fu' ≤ 9223372036854775807) : DiskG w' st' fu' out' d mb base M C ∧ Kept d mb base w w' := by
  obtain ⟨q1, q2, q3, c, q4, q5⟩ := h.dm
  exact h.remap hb hos hsz (fun j hj h1 _ => hbl j hj h1) ⟨hfu, q2, hd, c, q4, (hbl mb (heap_lt q5) (by omega)).trans q5⟩ (fun x hx => ⟨x, hx, rfl⟩) h.apart
theorem DiskG.outed {w : World} {st fu : Int} {d mb base : Nat} {M : List Ent} {C : Cont} (h : DiskG w st fu false d mb base M C) (hb : base ≤ w.heap.size) : DiskG (w.setCell ⟨d, 3, none⟩ (.bool true)) st fu true d mb base M C ∧ Kept d mb base w (w.setCell ⟨d, 3, none⟩ (.bool true)) :=
  h.same hb ⟨rfl, rfl, rfl⟩ (by simp) (fun j _ hj => Below.heap_setCell _ _ _ _ hj) h.dm.outed.2.2.1 h.dm.1
theorem DiskG.stepped {w : World} {st fu : Int} {d mb base : Nat} {M : List Ent} {C : Cont} (h : DiskG w st fu false d mb base M C) (hb : base ≤ w.heap.size) : DiskG (stepW w d st fu) (wrap64 (st + 1)) (dec fu) false d mb base M C ∧ Kept d mb base w (stepW w d st fu) :=
  h.same hb (stepW_os w d st fu) (by rw [stepW_size]; exact Nat.le_refl _) (fun j _ hj => stepW_heap hj) h.dm.stepped.2.2.1 h.dm.stepped.1
/-- a step of a disk with all its files. -/
theorem step_G (d mb base : Nat) (M : List Ent) (C : Cont) (st fu : Int) (g : Nat) (binds : Array Value) (w : World) (h : DiskG w st fu false d mb base M C) (hb : base ≤ w.heap.size) (eg : ∀ args w, (callFunc g args).run Try.prog w = .ok (.enter g args) w) (Q : World → Prop)
    (hdo : ∀ W, Kept d mb base w W → (∀ (j : Nat), j ≠ d → W.heap[j]? = w.heap[j]?) → DiskG W (wrap64 (st + 1)) (dec fu) false d mb base M C → Calls Try.prog g binds W fun e w' => e = .returned (.tuple #[]) ∧ Q w' ∧ Kept d mb base W w') :
    Calls Try.prog 37 #[.pointer (some ⟨d, 0, none⟩), .func (.func g) #[] binds] w fun e w' => ∃ z, e = .returned (.int .i64 z) ∧ Stepped fu z (DiskG w' st fu true d mb base M C) (Q w') ∧ Kept d mb base w w' := by
  refine (step_all d mb st fu g binds M w h.dm eg (fun w' => Q w' ∧ Kept d mb base w w') (fun _ => ?_)).mono ?_
  · obtain ⟨h1, h2⟩ := h.stepped hb
    refine (hdo _ h2 (fun j hj => stepW_heap hj) h1).mono ?_
    rintro e w' ⟨rfl, q1, q2⟩
    exact ⟨rfl, q1, h2.trans q2⟩
  · rintro e w' ⟨z, rfl, ⟨h1, h2, rfl⟩ | ⟨h1, h2, q1, q2⟩⟩
    · exact ⟨z, rfl, .inl ⟨h1, h2, (h.outed hb).1⟩, (h.outed hb).2⟩
    · exact ⟨z, rfl, .inr ⟨h1, h2, q1⟩, q2⟩
theorem enters_rem : ∀ args w, (callFunc 48 args).run Try.prog w = .ok (.enter 48 args) w := enters_of (hf := Try.func48) (hname := by kernel_rfl) (hb := rfl)
theorem enters_ren : ∀ args w, (callFunc 54 args).run Try.prog w = .ok (.enter 54 args) w := enters_of (hf := Try.func54) (hname := by kernel_rfl) (hb := rfl)
theorem row1_ne {w : World} {d mb : Nat} {st fu : Int} {out : Bool} (hd : DiskRow w d mb st fu out) {j : Nat} {v : Value} {t : TypeId} {fr : Nat × Nat} (h : w.heap[j]? = some (.cells #[v] t fr)) : j ≠ d := by
  rintro rfl
  unfold DiskRow at hd
  rw [hd] at h
  cases h
theorem rem_step (nm : ByteArray) (bd bn d mb base : Nat) (M : List Ent) (C : Cont) (st fu : Int) (w : World) (hb : base ≤ w.heap.size)
    (hbd : w.heap[bd]? = some (.cells #[.pointer (some ⟨d, 0, none⟩)] 27 (0, 0))) (hbn : w.heap[bn]? = some (.cells #[.string nm] 9 (0, 0))) (h : DiskG w st fu false d mb base M C) :
    Calls Try.prog 37 #[.pointer (some ⟨d, 0, none⟩), .func (.func 48) #[] #[.pointer (some ⟨bd, 0, none⟩), .pointer (some ⟨bn, 0, none⟩)]] w
      fun e w' => ∃ z, e = .returned (.int .i64 z) ∧ Stepped fu z (DiskG w' st fu true d mb base M C) (DiskG w' (wrap64 (st + 1)) (dec fu) false d mb base (delE nm M) C) ∧ Kept d mb base w w' := by
  refine step_G d mb base M C st fu _ _ w h hb enters_rem _ (fun W hk hW hg => ?_)
  have hd := h.dm.2.2.1
  refine (RemDo_any nm bd bn d mb M _ _ W ((hW _ (row1_ne hd hbd)).trans hbd) ((hW _ (row1_ne hd hbn)).trans hbn) hg.dm).mono ?_
  rintro e w' ⟨rfl, hdm, o, rfl⟩
  obtain ⟨_, _, _, c, hfit, hm⟩ := hg.dm
  have hmem : ∀ x, x ∈ delE nm M → x ∈ M := fun x hx => ((delE_mem hfit.once).1 hx).1
  obtain ⟨r1, r2⟩ := hg.remap (w' := setObjAt W.drew mb o) (Nat.le_trans hb hk.below.size) ⟨rfl, rfl, rfl⟩ (by rw [setObjAt_size]; exact Nat.le_refl _) (fun j hj h1 h2 => heap_setObjAt W.drew mb j o h2) hdm (fun x hx => ⟨x, hmem x hx, rfl⟩) (fun x hx y hy => hg.apart x (hmem x hx) y (hmem y hy))
  exact ⟨rfl, r1, r2⟩
theorem ren_step (nm to : ByteArray) (bd bn p bt d mb base f : Nat) (M : List Ent) (C : Cont) (st fu : Int) (w : World) (hb : base ≤ w.heap.size) (hnt : nameP to.data.toList = true) (hfo : fileOf nm M = some f)
    (hp : w.heap[p]? = some (.cells #[.pointer (some ⟨f, 0, none⟩)] 72 (0, 0))) (hbt : w.heap[bt]? = some (.cells #[.string to] 9 (0, 0)))
    (hbd : w.heap[bd]? = some (.cells #[.pointer (some ⟨d, 0, none⟩)] 27 (0, 0))) (hbn : w.heap[bn]? = some (.cells #[.string nm] 9 (0, 0))) (h : DiskG w st fu false d mb base M C) :
    Calls Try.prog 37 #[.pointer (some ⟨d, 0, none⟩), .func (.func 54) #[] #[.pointer (some ⟨bd, 0, none⟩), .pointer (some ⟨bn, 0, none⟩), .pointer (some ⟨p, 0, none⟩), .pointer (some ⟨bt, 0, none⟩)]] w
      fun e w' => ∃ z, e = .returned (.int .i64 z) ∧ Stepped fu z (DiskG w' st fu true d mb base M C) (∃ c, DiskG w' (wrap64 (st + 1)) (dec fu) false d mb base (putE to f c (delE nm M)) C) ∧ Kept d mb base w w' := by
  refine step_G d mb base M C st fu _ _ w h hb enters_ren (fun w' => ∃ c, DiskG w' (wrap64 (st + 1)) (dec fu) false d mb base (putE to f c (delE nm M)) C) (fun W hk hW hg => ?_)
  have hd := h.dm.2.2.1
  refine (RenDo_any nm to bd bn p bt d mb f M _ _ W hnt hfo ((hW _ (row1_ne hd hp)).trans hp) ((hW _ (row1_ne hd hbt)).trans hbt) ((hW _ (row1_ne hd hbd)).trans hbd) ((hW _ (row1_ne hd hbn)).trans hbn) hg.dm).mono ?_
  rintro e w' ⟨rfl, c', hdm, o, o', rfl⟩
  obtain ⟨_, _, _, c, hfit, hm⟩ := hg.dm
  obtain ⟨b, hfm⟩ := fileOf_mem hfo
  have hmem : ∀ x, x ∈ putE to f c' (delE nm M) → (x.1 = to ∧ x.2.1 = f) ∨ (x ∈ M ∧ x.1 ≠ nm ∧ x.1 ≠ to) := fun x hx => by
    rcases putE_mem hfit.del.once hx with q | ⟨q1, q2⟩
    · exact .inl q
    · have := (delE_mem hfit.once).1 q1
      exact .inr ⟨this.1, this.2, q2⟩
  obtain ⟨r1, r2⟩ := hg.remap (w' := setObjAt (setObjAt W.drew mb o').drew mb o) (Nat.le_trans hb hk.below.size) ⟨rfl, rfl, rfl⟩ (by rw [setObjAt_size]; show _ ≤ (setObjAt W.drew mb o').heap.size; rw [setObjAt_size]; exact Nat.le_refl _)
    (fun j hj h1 h2 => (heap_setObjAt (setObjAt W.drew mb o').drew mb j o h2).trans (heap_setObjAt W.drew mb j o' h2)) hdm
    (fun x hx => by
      rcases hmem x hx with q | q
      · exact ⟨_, hfm, q.2.symm⟩
      · exact ⟨x, q.1, rfl⟩)
    (fun x hx y hy e => by
      rcases hmem x hx with q | q <;> rcases hmem y hy with r | r
      · rw [q.1, r.1]
      · exact absurd (hg.apart y r.1 _ hfm (e.symm.trans q.2)) r.2.1
      · exact absurd (hg.apart x q.1 _ hfm (e.trans r.2)) q.2.1
      · exact hg.apart x q.1 y r.1 e)
  exact ⟨rfl, ⟨c', r1⟩, r2⟩
set_option maxRecDepth 100000 in
theorem Remove_any (nm : ByteArray) (d mb base f : Nat) (M : List Ent) (C : Cont) (st fu : Int) (w : World) (hb : base ≤ w.heap.size) (h : DiskG w st fu false d mb base M C) (hfo : fileOf nm M = some f) :
    Calls Try.prog 18 #[.pointer (some ⟨d, 0, none⟩), .string nm] w fun e w' => ∃ z, e = .returned (.int .i64 z) ∧ Stepped fu z (DiskG w' st fu true d mb base M C) (DiskG w' (wrap64 (st + 1)) (dec fu) false d mb base (delE nm M) C) ∧ Kept d mb base w w' := by
  have HB := Lib.hid hb
  have HG := Lib.hid h
  have HFO := Lib.hid hfo
  clear hb h hfo
  go_enter Try.func18, Try.ntmps18
  go_wp2_with fail
  generalize hX : (w.alloc (.cells #[.pointer (some ⟨d, 0, none⟩)] 27)).alloc (.cells #[.string nm] 9) = X
  have hx0 : X.heap[w.heap.size]? = some (.cells #[.pointer (some ⟨d, 0, none⟩)] 27 (0, 0)) := by
    rw [← hX, Below.heap_alloc _ _ _ (by simp)]
    exact heap_alloc_new _ _
  have hx1 : X.heap[w.heap.size + 1]? = some (.cells #[.string nm] 9 (0, 0)) := by
    rw [← hX]
    have := heap_alloc_new (w.alloc (.cells #[.pointer (some ⟨d, 0, none⟩)] 27)) (.cells #[.string nm] 9)
    simpa using this
  have hbX : Below w.heap.size w X := by
    rw [← hX]
    exact ((Below.refl _ _).alloc (Nat.le_refl _) _).alloc (by simp) _
  clear hX
  have c0 : X.cell? ⟨w.heap.size, 0, none⟩ = some (.pointer (some ⟨d, 0, none⟩)) := cell_of_row _ _ _ _ _ _ hx0
  have c1 : X.cell? ⟨w.heap.size + 1, 0, none⟩ = some (.string nm) := cell_of_row _ _ _ _ _ _ hx1
  have HGX := Lib.hid (HG.out.later hbX)
  have hbb : base ≤ X.heap.size := Nat.le_trans HB.out hbX.size
  have HST := Lib.hid (rem_step nm w.heap.size (w.heap.size + 1) d mb base M C st fu X hbb hx0 hx1 HGX.out)
  obtain ⟨c, hm⟩ : ∃ c, X.heap[mb]? = some (.map (ents M) c) := ⟨_, HGX.out.dm.2.2.2.choose_spec.2⟩
  have HO := Lib.hid (open_log d mb c f M st fu X HGX.out.dm.2.2.1 hm HFO.out)
  have HK : Hid (Kept d mb base w X) := Lib.hid (.of_below hbX HB.out)
  clear hx0 hx1 hbX hbb hm
  refine HO.out.mono ?_
  rintro e w' ⟨rfl, rfl⟩
  go_wp2_with fail
  refine HST.out.mono ?_
  rintro e w' ⟨z, rfl, hs, hk⟩
  have HR := Lib.hid (And.intro hs (HK.out.trans hk))
  clear hs hk
  go_wp2_with fail
  go_ret
  exact ⟨z, rfl, HR.out.1, HR.out.2⟩
end Go.Proofs.Ytmpjjkfbojhfoaa
