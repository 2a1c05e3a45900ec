/- disk: what Append does behind the step -/
import Derived.Test.YtdglaacjefcfdaaDSync3
namespace Go.Proofs.Ytdglaacjefcfdaa
open Go.RowKit
theorem Try.infoDeed : (Try.prog.info? 94).map (fun i => (i.zero, i.size, i.bytes)) = some (some .nilIface, 1, 16) := by kernel_rfl
theorem run_append_deed {w : World} (ty base : Nat) (lv : Value) (D : List Deed) (hown : OwnD w base lv D) (g c : Nat) (u : Value) (x : Deed) (hc : w.cell? ⟨g, 0, none⟩ = some u) (hu : IsDeed w u x) (hD : D.length ≤ 1000000) (hbase : base ≤ w.heap.size) :
    ∃ v' w', (Builtin.append_ #[75, 75] ty #[lv, .slice (some ⟨g, 0, none⟩) 1 c]).run Try.prog w = .ok v' w' ∧ OwnD w' base v' (D ++ [x]) ∧ w.grownBy w' lv.ownBlock := by
  obtain ⟨i0, hi, hz0, hz1, hz2⟩ := info_parts Try.infoDeed
  obtain ⟨xs, ho, ha, hd⟩ := hown
  have hnu : notU8 u := by
    cases x with
    | more b => obtain ⟨a, n, c, rfl, _⟩ := hu; intro n h; cases h
    | cut n => intro k h; rw [show u = _ from hu] at h; cases h
  obtain ⟨v', w', hr, h2, h3, h4, _, _⟩ := run_append_all (P := Try.prog) w base 75 ty _ i0 _ 1 16 Try.underlying75 hi hz0 hz1 hz2 rfl (by decide) lv _ _ ho ⟨g, 0, none⟩ 1 c [u] rfl
    (fun j y hy => by
      cases j with
      | zero => simp at hy; subst hy; have : (⟨g, 0, none⟩ : Addr).add 0 = ⟨g, 0, none⟩ := by simp [Addr.add]
                rw [this]; exact hc
      | succ j => simp at hy)
    (fun y hy => by
      simp at hy; subst hy
      cases x with
      | more b => obtain ⟨a, n, c, rfl, _⟩ := hu; rfl
      | cut n => rw [show y = _ from hu]; rfl)
    (by unfold maxLen; omega) (by omega) hbase notU8 (fun y hy n => by simp [Value.cells] at hy; subst hy; intro h; cases h) (fun y hy => by simp at hy; subst hy; exact hnu) ha
  refine ⟨v', w', hr, ?_, h3⟩
  have hkeep : ∀ j off v, w.cell? ⟨j, off, none⟩ = some (.int .u8 v) → w'.heap[j]? = w.heap[j]? := by
    intro j off v hcj
    refine h3.block j (block_lt_of_cell hcj) ?_
    intro e
    rcases ho.2 with ⟨rfl, _⟩ | ⟨g', cap', cur, rfl, _, hg', _⟩
    · simp [Value.ownBlock] at e
    · simp only [Value.ownBlock, Option.some.injEq] at e
      subst e
      simp only [World.cell?, hg'] at hcj
      exact ha _ _ _ _ rfl hg' _ (Array.mem_of_getElem? hcj) v rfl
  refine ⟨xs ++ [u], by simpa using h2, h4, fun i hi => ?_⟩
  have hl : xs.length = D.length := by have := ho.1; omega
  by_cases h : i < D.length
  · obtain ⟨y, hy, hdy⟩ := hd i h
    refine ⟨y, by rw [List.getElem?_append_left (by omega)]; exact hy, ?_⟩
    rw [show (D ++ [x]).getD i (.cut 0) = D.getD i (.cut 0) by simp [List.getD_eq_getElem?_getD, List.getElem?_append_left h]]
    exact hdy.moved hkeep
  · have : i = D.length := by simp at hi; omega
    subst this
    refine ⟨u, by rw [List.getElem?_append_right (by omega)]; simp [hl], ?_⟩
    rw [show (D ++ [x]).getD D.length (.cut 0) = x by simp [List.getD_eq_getElem?_getD]]
    exact hu.moved hkeep
/-- the map's object with "log" in it. -/
def IsMapLog (w : World) (mb f : Nat) : Prop := ∃ c b, w.heap[mb]? = some (.map #[{ key := .string logB, val := .pointer (some ⟨f, 0, none⟩), born := b }] c)
/-- the map has no file, or just this one. -/
def IsMapFree (w : World) (mb f : Nat) : Prop := (∃ c, w.heap[mb]? = some (.map #[] c)) ∨ IsMapLog w mb f
theorem put_free (w : World) (mb f : Nat) (h : IsMapFree w mb f) : ∃ o, (∀ w' : World, w'.heap[mb]? = w.heap[mb]? → (Instr.mapUpdate 60 (.map (some mb)) (.string logB) (.pointer (some ⟨f, 0, none⟩))).run Try.prog w' = .ok () (setObjAt w' mb o) ∧ IsMapLog (setObjAt w' mb o) mb f) := by
  have key : ∀ (w' : World) (o : Obj), mb < w'.heap.size → (setObjAt w' mb o).heap[mb]? = some o := by
    intro w' o h
    unfold setObjAt
    simp [h]
  rcases h with ⟨c, h⟩ | ⟨c, b, h⟩
  · refine ⟨_, fun w' hw => ⟨put_none w' mb c _ (hw.trans h), ⟨_, _, key w' _ (heap_lt (hw.trans h))⟩⟩⟩
  · refine ⟨_, fun w' hw => ⟨put_log w' mb c b _ _ (hw.trans h), ⟨_, _, key w' _ (heap_lt (hw.trans h))⟩⟩⟩
theorem heap_setObjAt (w : World) (mb j : Nat) (o : Obj) (h : j ≠ mb) : (setObjAt w mb o).heap[j]? = w.heap[j]? := by
  unfold setObjAt
  simp [Array.getElem?_setIfInBounds_ne (Ne.symm h)]
set_option maxRecDepth 100000 in
theorem AppDo_none (base p bd bn bb d mb f : Nat) (st fu : Int) (S : List UInt8) (D : List Deed) (ao : Option Addr) (cap : Nat) (w : World)
    (hp : w.heap[p]? = some (.cells #[.pointer (some ⟨f, 0, none⟩)] 69 (0, 0))) (hbd : w.heap[bd]? = some (.cells #[.pointer (some ⟨d, 0, none⟩)] 25 (0, 0)))
    (hbn : w.heap[bn]? = some (.cells #[.string logB] 9 (0, 0))) (hbb : w.heap[bb]? = some (.cells #[.slice ao 0 cap] 24 (0, 0)))
    (hd : DiskRow w d mb st fu false) (hm : IsMapFree w mb f) (hf : FileOwn w f base S D) :
    Calls Try.prog 34 #[.pointer (some ⟨p, 0, none⟩), .pointer (some ⟨bd, 0, none⟩), .pointer (some ⟨bn, 0, none⟩), .pointer (some ⟨bb, 0, none⟩)] w
      fun e w' => e = .returned (.tuple #[]) ∧ DiskRow w' d mb st fu false ∧ IsMapLog w' mb f ∧ FileOwn w' f base S D ∧ Moved d mb f base w w' := by
  have p0 : w.cell? ⟨p, 0, none⟩ = some (.pointer (some ⟨f, 0, none⟩)) := cell_of_row _ _ _ _ _ _ hp
  have p1 : w.cell? ⟨bd, 0, none⟩ = some (.pointer (some ⟨d, 0, none⟩)) := cell_of_row _ _ _ _ _ _ hbd
  have p2 : w.cell? ⟨bn, 0, none⟩ = some (.string logB) := cell_of_row _ _ _ _ _ _ hbn
  have h0 := hd.cells.1
  obtain ⟨o, ho⟩ := put_free w mb f hm
  have HO := Lib.hid ho
  have hpu := (ho w.drew rfl).1
  have hlog := (ho w.drew rfl).2
  have hmc : ∃ es c, w.heap[mb]? = some (.map es c) := by
    rcases hm with ⟨c, h⟩ | ⟨c, b, h⟩ <;> exact ⟨_, _, h⟩
  obtain ⟨es, cc, hmc⟩ := hmc
  have hne : ∀ {j : Nat} {cs : Array Value} {t : TypeId} {fr : Nat × Nat}, w.heap[j]? = some (.cells cs t fr) → j ≠ mb := by
    rintro j cs t fr h rfl
    rw [hmc] at h
    cases h
  have p3 : (setObjAt w.drew mb o).cell? ⟨bb, 0, none⟩ = some (.slice ao 0 cap) := cell_of_row _ _ _ _ _ _ ((heap_setObjAt w.drew mb bb o (hne hbb)).trans hbb)
  have hd2 : DiskRow (setObjAt w.drew mb o) d mb st fu false := (heap_setObjAt w.drew mb d o (hne hd)).trans hd
  have hf2 : FileOwn (setObjAt w.drew mb o) f base S D := hf.moved (· = mb) (fun j e => e ▸ map_plain hmc) (hf.at.ne_map hmc) (fun c t j e h => hne h e) (fun j _ hn => heap_setObjAt w.drew mb j o hn)
  have hmv : Moved d mb f base w (setObjAt w.drew mb o) := ⟨rfl, rfl, rfl, by unfold setObjAt; simp, fun j _ _ h _ _ => heap_setObjAt w.drew mb j o h⟩
  have HF := Lib.hid (And.intro hd2 (And.intro hlog (And.intro hf2 hmv)))
  clear ho hm hp hbd hbn hlog hmc hne hd2 hf2 hmv hf HO hbb hd
  generalize hW : setObjAt w.drew mb o = W at hpu p3 HF
  clear hW
  generalize logB = nm at p2 hpu
  go_enter Try.func34, Try.ntmps34
  go_wp2
  go_region
  go_wp2
  go_end0
  exact ⟨rfl, HF.out⟩
end Go.Proofs.Ytdglaacjefcfdaa
