/- disk: what Append does behind the step -/
import Derived.Test.YtgbpgmbnihfkkaaDStep
namespace Go.Proofs.Ytgbpgmbnihfkkaa
open Go.RowKit
set_option linter.unusedSectionVars false
variable [Zone]
variable {nm : ByteArray}

theorem Try.infoDeed : (Try.prog.info? 81).map (fun i => (i.zero, i.size, i.bytes)) = some (some .nilIface, 1, 16) := by kernel_rfl
theorem run_append_deed {w : World} (ty base : Nat) (lv : Value) (D : List Deed) (hown : OwnD w base lv D) (g c : Nat) (u : Value) (x : Deed) (hc : w.cell? ⟨g, 0, none⟩ = some u) (hu : IsDeed w u x) (hzu : ZV u) (hD : D.length ≤ 1000000) (hbase : base ≤ w.heap.size) :
    ∃ v' w', (Builtin.append_ #[59, 59] ty #[lv, .slice (some ⟨g, 0, none⟩) 1 c]).run Try.prog w = .ok v' w' ∧ OwnD w' base v' (D ++ [x]) ∧ w.grownBy w' lv.ownBlock ∧ (∀ g, v'.ownBlock = some g → lv.ownBlock = some g ∨ w.heap.size ≤ g) := by
  obtain ⟨i0, hi, hz0, hz1, hz2⟩ := info_parts Try.infoDeed
  obtain ⟨xs, ho, ha, hd⟩ := hown
  have hnu : notU8 u := by
    cases x with
    | more b => obtain ⟨a, n, c, rfl, _⟩ := hu; intro n h; cases h
    | cut n => intro k h; rw [show u = _ from hu] at h; cases h
  obtain ⟨v', w', hr, h2, h3, h4, _, h6⟩ := run_append_all (P := Try.prog) w base 59 ty _ i0 _ 1 16 Try.underlying59 hi hz0 hz1 hz2 rfl (by decide) lv _ _ ho ⟨g, 0, none⟩ 1 c [u] rfl
    (fun j y hy => by
      cases j with
      | zero => simp at hy; subst hy; have : (⟨g, 0, none⟩ : Addr).add 0 = ⟨g, 0, none⟩ := by simp [Addr.add]
                rw [this]; exact hc
      | succ j => simp at hy)
    (fun y hy => by
      simp at hy; subst hy
      cases x with
      | more b => obtain ⟨a, n, c, rfl, _⟩ := hu; rfl
      | cut n => rw [show y = _ from hu]; rfl)
    (by unfold maxLen; omega) (by omega) hbase notU8 (fun y hy n => by simp [Value.cells] at hy; subst hy; intro h; cases h) (fun y hy => by simp at hy; subst hy; exact hnu) ha
  refine ⟨v', w', hr, ?_, h3, fun g hg => (h6 g hg).imp id (fun e => Nat.le_of_eq e.symm)⟩
  have hkeep : ∀ j off v, w.cell? ⟨j, off, none⟩ = some (.int .u8 v) → w'.heap[j]? = w.heap[j]? := by
    intro j off v hcj
    refine h3.block j (block_lt_of_cell hcj) ?_
    intro e
    rcases ho.2 with ⟨rfl, _⟩ | ⟨g', cap', cur, rfl, _, hg', _⟩
    · simp [Value.ownBlock] at e
    · simp only [Value.ownBlock, Option.some.injEq] at e
      subst e
      simp only [World.cell?, hg'] at hcj
      exact ha _ _ _ _ rfl hg' _ (Array.mem_of_getElem? hcj) v rfl
  refine ⟨xs ++ [u], by simpa using h2, h4, fun i hi => ?_⟩
  have hl : xs.length = D.length := by have := ho.1; omega
  by_cases h : i < D.length
  · obtain ⟨y, hy, hdy, hzy⟩ := hd i h
    refine ⟨y, by rw [List.getElem?_append_left (by omega)]; exact hy, ?_, hzy⟩
    rw [show (D ++ [x]).getD i (.cut 0) = D.getD i (.cut 0) by simp [List.getD_eq_getElem?_getD, List.getElem?_append_left h]]
    exact hdy.moved hkeep
  · have : i = D.length := by simp at hi; omega
    subst this
    refine ⟨u, by rw [List.getElem?_append_right (by omega)]; simp [hl], ?_, hzu⟩
    rw [show (D ++ [x]).getD D.length (.cut 0) = x by simp [List.getD_eq_getElem?_getD]]
    exact hu.moved hkeep
/-- the files' map, in a block. -/
def MapHas (w : World) (mb : Nat) (M : List Ent) : Prop := ∃ c, MapFit M c ∧ w.heap[mb]? = some (.map (ents M) c)
/-- the map with a file under a name: as it was, or with one more. -/
def PutTo (nm : ByteArray) (f : Nat) (M M' : List Ent) : Prop := (fileOf nm M = some f ∧ M' = M) ∨ (fileOf nm M = none ∧ ∃ c, M' = M ++ [(nm, f, c)])
theorem fnd_none {nm : ByteArray} : ∀ {M : List Ent} {i : Nat}, fnd nm M i = none → nm ∉ M.map (·.1)
  | [], _, _ => by simp
  | x :: M, i, h => by
    unfold fnd at h
    cases hx : (nm == x.1) with
    | true => rw [hx, if_pos rfl] at h; cases h
    | false =>
      rw [hx, if_neg (by simp)] at h
      have ih := fnd_none h
      rw [bytes_beq] at hx
      have hne : nm ≠ x.1 := of_decide_eq_false hx
      simp only [List.map_cons, List.mem_cons, not_or]
      exact ⟨hne, ih⟩
theorem MapFit.push {nm : ByteArray} {f c : Nat} {M : List Ent} (h : MapFit M c) (hf : fileOf nm M = none) (hnf : nameP nm.data.toList = true) (hml : M.length < 16) : MapFit (M ++ [(nm, f, c)]) (c + 1) := by
  obtain ⟨h1, h2, h3, h4, h5⟩ := h
  have hn : nm ∉ M.map (·.1) := by
    cases hq : fnd nm M 0 with
    | none => exact fnd_none hq
    | some p => unfold fileOf at hf; rw [hq] at hf; cases hf
  refine ⟨fun x hx => ?_, ?_, ?_, fun x hx => ?_, by simp; omega⟩
  · rcases List.mem_append.1 hx with hx | hx
    · exact Nat.lt_succ_of_lt (h1 x hx)
    · simp only [List.mem_singleton] at hx
      subst hx
      exact Nat.lt_succ_self c
  · refine List.pairwise_append.2 ⟨h2, List.pairwise_singleton _ _, fun x hx y hy => ?_⟩
    simp only [List.mem_singleton] at hy
    subst hy
    exact h1 x hx
  · rw [List.map_append]
    refine List.nodup_append.2 ⟨h3, by simp, fun x hx y hy => ?_⟩
    simp only [List.map_cons, List.map_nil, List.mem_singleton] at hy
    subst hy
    rintro rfl
    exact hn hx
  · rcases List.mem_append.1 hx with hx | hx
    · exact h4 x hx
    · simp only [List.mem_singleton] at hx
      subst hx
      exact hnf
theorem put_free (w : World) (mb f : Nat) (M : List Ent) (h : MapHas w mb M) (hfo : CanPut nm f M) : ∃ o M', PutTo nm f M M' ∧ ∀ w' : World, w'.heap[mb]? = w.heap[mb]? → (Instr.mapUpdate 40 (.map (some mb)) (.string nm) (.pointer (some ⟨f, 0, none⟩))).run Try.prog w' = .ok () (setObjAt w' mb o) ∧ MapHas (setObjAt w' mb o) mb M' := by
  have key : ∀ (w' : World) (o : Obj), mb < w'.heap.size → (setObjAt w' mb o).heap[mb]? = some o := by
    intro w' o h
    unfold setObjAt
    simp [h]
  obtain ⟨c, hfit, h⟩ := h
  have hput : ∀ w' : World, w'.heap[mb]? = w.heap[mb]? → _ := fun w' hw => put_ents nm f c mb M w' (hw.trans h)
  rcases hfo with hfo | ⟨hfo, hnf, hml⟩
  · obtain ⟨k, hk⟩ : ∃ k, fnd nm M 0 = some (k, f) := by
      unfold fileOf at hfo
      cases hq : fnd nm M 0 with
      | none => rw [hq] at hfo; cases hfo
      | some p => rw [hq] at hfo; injection hfo with hfo; exact ⟨p.1, by rw [← hfo]⟩
    obtain ⟨j, b, hkj, hj⟩ := fnd_spec nm M 0 k f hk
    rw [Nat.zero_add] at hkj
    subst hkj
    have e1 : putE nm f c M = M := by
      unfold putE
      rw [hk]
      apply List.ext_getElem?
      intro i
      simp only [List.getElem?_modify]
      by_cases hik : k = i
      · subst hik
        simp [hj]
      · simp [hik]
    have e2 : clockE nm c M = c := by
      unfold clockE
      rw [hk]
    rw [e1, e2] at hput
    exact ⟨_, M, .inl ⟨hfo, rfl⟩, fun w' hw => ⟨hput w' hw, c, hfit, key w' _ (heap_lt (hw.trans h))⟩⟩
  · have hk : fnd nm M 0 = none := by
      unfold fileOf at hfo
      cases hq : fnd nm M 0 with
      | none => rfl
      | some p => rw [hq] at hfo; cases hfo
    have e1 : putE nm f c M = M ++ [(nm, f, c)] := by
      unfold putE
      rw [hk]
    have e2 : clockE nm c M = c + 1 := by
      unfold clockE
      rw [hk]
    rw [e1, e2] at hput
    exact ⟨_, _, .inr ⟨hfo, c, rfl⟩, fun w' hw => ⟨hput w' hw, c + 1, hfit.push hfo hnf hml, key w' _ (heap_lt (hw.trans h))⟩⟩
theorem heap_setObjAt (w : World) (mb j : Nat) (o : Obj) (h : j ≠ mb) : (setObjAt w mb o).heap[j]? = w.heap[j]? := by
  unfold setObjAt
  simp [Array.getElem?_setIfInBounds_ne (Ne.symm h)]
set_option maxRecDepth 100000 in
theorem AppDo_none (base p bd bn bb d mb f : Nat) (M : List Ent) (st fu : Int) (S : List UInt8) (D : List Deed) (ao : Option Addr) (cap : Nat) (w : World)
    (hp : w.heap[p]? = some (.cells #[.pointer (some ⟨f, 0, none⟩)] 55 (0, 0))) (hbd : w.heap[bd]? = some (.cells #[.pointer (some ⟨d, 0, none⟩)] 22 (0, 0)))
    (hbn : w.heap[bn]? = some (.cells #[.string nm] 9 (0, 0))) (hbb : w.heap[bb]? = some (.cells #[.slice ao 0 cap] 30 (0, 0)))
    (hd : DiskRow w d mb st fu false) (hm : MapHas w mb M) (hfo : CanPut nm f M) (hf : FileOwn w f base S D) :
    Calls Try.prog 27 #[.pointer (some ⟨p, 0, none⟩), .pointer (some ⟨bd, 0, none⟩), .pointer (some ⟨bn, 0, none⟩), .pointer (some ⟨bb, 0, none⟩)] w
      fun e w' => e = .returned (.tuple #[]) ∧ (∃ M', PutTo nm f M M' ∧ DiskRow w' d mb st fu false ∧ MapHas w' mb M' ∧ FileOwn w' f base S D ∧ Moved d mb f w w') := by
  have p0 : w.cell? ⟨p, 0, none⟩ = some (.pointer (some ⟨f, 0, none⟩)) := cell_of_row _ _ _ _ _ _ hp
  have p1 : w.cell? ⟨bd, 0, none⟩ = some (.pointer (some ⟨d, 0, none⟩)) := cell_of_row _ _ _ _ _ _ hbd
  have p2 : w.cell? ⟨bn, 0, none⟩ = some (.string nm) := cell_of_row _ _ _ _ _ _ hbn
  have h0 := hd.cells.1
  obtain ⟨o, M', hpt, ho⟩ := put_free w mb f M hm hfo
  have HO := Lib.hid ho
  have hpu := (ho w.drew rfl).1
  have hlog := (ho w.drew rfl).2
  obtain ⟨cc, hfit, hmc⟩ := hm
  have hne : ∀ {j : Nat} {cs : Array Value} {t : TypeId} {fr : Nat × Nat}, w.heap[j]? = some (.cells cs t fr) → j ≠ mb := by
    rintro j cs t fr h rfl
    rw [hmc] at h
    cases h
  have p3 : (setObjAt w.drew mb o).cell? ⟨bb, 0, none⟩ = some (.slice ao 0 cap) := cell_of_row _ _ _ _ _ _ ((heap_setObjAt w.drew mb bb o (hne hbb)).trans hbb)
  have hd2 : DiskRow (setObjAt w.drew mb o) d mb st fu false := (heap_setObjAt w.drew mb d o (hne hd)).trans hd
  have hf2 : FileOwn (setObjAt w.drew mb o) f base S D := hf.moved (· = mb) (fun j e => e ▸ map_plain hmc) (hf.at.ne_map hmc) (fun c t j e h => hne h e) (fun j _ hn => heap_setObjAt w.drew mb j o hn)
  have hmv : Moved d mb f w (setObjAt w.drew mb o) := ⟨rfl, rfl, rfl, by unfold setObjAt; simp, fun j _ _ h _ _ => heap_setObjAt w.drew mb j o h, fun k hk => .inl (by rwa [rowOf_same (w := w) (heap_setObjAt w.drew mb f o (hf.at.ne_map hmc))] at hk)⟩
  have HF := Lib.hid (And.intro hpt (And.intro hd2 (And.intro hlog (And.intro hf2 hmv))))
  clear ho hfo hfit hpt hp hbd hbn hlog hmc hne hd2 hf2 hmv hf HO hbb hd
  generalize hW : setObjAt w.drew mb o = W at hpu p3 HF
  clear hW
  go_enter Try.func27, Try.ntmps27
  go_wp2
  go_region
  go_wp2
  go_end0
  exact ⟨rfl, M', HF.out⟩
theorem OwnD.ne {w : World} {base : Nat} {lv : Value} {D : List Deed} (h : OwnD w base lv D) {j : Nat} {c : Array Value} {t : TypeId} {fr : Nat × Nat} (hj : w.heap[j]? = some (.cells c t fr)) (ht : t ≠ 81) : some j ≠ lv.ownBlock := by
  obtain ⟨xs, ho, _⟩ := h
  exact box_ne hj ho ht
theorem OwnD.ne_map {w : World} {base : Nat} {lv : Value} {D : List Deed} (h : OwnD w base lv D) {j c : Nat} {es : Array MapEntry} (hj : w.heap[j]? = some (.map es c)) : some j ≠ lv.ownBlock := by
  obtain ⟨xs, ho, _⟩ := h
  exact obj_ne hj (fun _ _ _ e => by cases e) ho
theorem OwnD.ne_u8 {w : World} {base : Nat} {lv : Value} {D : List Deed} (h : OwnD w base lv D) {j off : Nat} {v : Int} (hj : w.cell? ⟨j, off, none⟩ = some (.int .u8 v)) : some j ≠ lv.ownBlock := by
  obtain ⟨xs, ho, ha, _⟩ := h
  intro e
  rcases ho.2 with ⟨rfl, _⟩ | ⟨g', cap', cur, rfl, _, hg', _⟩
  · simp [Value.ownBlock] at e
  · simp only [Value.ownBlock, Option.some.injEq] at e
    subst e
    simp only [World.cell?, hg'] at hj
    exact ha _ _ _ _ rfl hg' _ (Array.mem_of_getElem? hj) v rfl
theorem OwnD.deed_block {w : World} {base : Nat} {lv : Value} {D : List Deed} (h : OwnD w base lv D) {g : Nat} (hg : lv.ownBlock = some g) : base ≤ g ∧ ∃ c t, w.heap[g]? = some (.cells c 81 t) := by
  obtain ⟨xs, ho, ha, _⟩ := h
  rcases ho.2 with ⟨rfl, _⟩ | ⟨g', cap', cur, rfl, hb, hg', _⟩
  · simp [Value.ownBlock] at hg
  · simp only [Value.ownBlock, Option.some.injEq] at hg
    subst hg
    exact ⟨hb, _, _, hg'⟩
theorem OwnD.later {w w' : World} {base : Nat} {lv : Value} {D : List Deed} (h : OwnD w base lv D) (hb : Below w.heap.size w w') : OwnD w' base lv D :=
  h.moved (fun j _ _ hc => hb.block j (block_lt_of_cell hc)) (fun g hg => hb.block g (heap_lt (h.deed_block hg).2.choose_spec.choose_spec))
theorem grownBy_trans {a b c : World} {row : Option Nat} (h : a.grownBy b row) (k : b.grownBy c row) : a.grownBy c row :=
  ⟨k.os.trans h.os, k.tape.trans h.tape, k.output.trans h.output, Nat.le_trans h.size k.size, fun j hj hn => (k.block j (Nat.lt_of_lt_of_le hj h.size) hn).trans (h.block j hj hn)⟩
theorem IsBytesZ.kept {w w' : World} {base : Nat} {lv : Value} {D : List Deed} {ao : Option Addr} {n cap : Nat} {l : List UInt8} (h : IsBytesZ w ao n cap l) (ho : OwnD w base lv D) (hg : w.grownBy w' lv.ownBlock) : IsBytesZ w' ao n cap l :=
  h.moved (fun j _ _ hc => hg.block j (block_lt_of_cell hc) (ho.ne_u8 hc))
theorem IsBytes.kept {w w' : World} {base : Nat} {lv : Value} {D : List Deed} {ao : Option Addr} {n cap : Nat} {l : List UInt8} (h : IsBytes w ao n cap l) (ho : OwnD w base lv D) (hg : w.grownBy w' lv.ownBlock) : IsBytes w' ao n cap l :=
  h.moved (fun j _ _ hc => hg.block j (block_lt_of_cell hc) (ho.ne_u8 hc))
/-- the memory that the last statement of Append goes by. -/
def AppS (p bb f : Nat) (bv : Value) (w' : World) : Prop :=
  w'.cell? ⟨p, 0, none⟩ = some (.pointer (some ⟨f, 0, none⟩)) ∧ w'.cell? ⟨bb, 0, none⟩ = some bv ∧ w'.frozen? ⟨f, 1, none⟩ = false
theorem appS {W w' : World} {p bb f base : Nat} {bv sv lv : Value} {D : List Deed} (hp : W.heap[p]? = some (.cells #[.pointer (some ⟨f, 0, none⟩)] 55 (0, 0))) (hbb : W.heap[bb]? = some (.cells #[bv] 30 (0, 0)))
    (hr : FileRow W f sv lv) (ho : OwnD W base lv D) (hg : W.grownBy w' lv.ownBlock) : AppS p bb f bv w' ∧ (∀ u, AppS p bb f bv (w'.setCell ⟨f, 1, none⟩ u)) ∧ w'.cell? ⟨f, 1, none⟩ = some lv := by
  have h1 := (hg.block p (heap_lt hp) (ho.ne hp (by decide))).trans hp
  have h2 := (hg.block bb (heap_lt hbb) (ho.ne hbb (by decide))).trans hbb
  have h3 : w'.heap[f]? = some (.cells #[sv, lv] 61 (0, 0)) := (hg.block f (heap_lt hr) (ho.ne hr (by decide))).trans hr
  have n1 : p ≠ f := by rintro rfl; rw [h1] at h3; cases h3
  have n2 : bb ≠ f := by rintro rfl; rw [h2] at h3; cases h3
  refine ⟨⟨cell_of_row _ _ _ _ _ _ h1, cell_of_row _ _ _ _ _ _ h2, frozen_of_row _ _ _ _ _ h3⟩, fun u => ⟨cell_of_row _ _ _ _ _ _ ((Below.heap_setCell _ _ _ _ n1).trans h1), cell_of_row _ _ _ _ _ _ ((Below.heap_setCell _ _ _ _ n2).trans h2), frozen_of_row _ _ _ _ _ (heap_setCell_same w' f 1 _ _ u h3)⟩, cell_of_row _ _ _ _ _ _ h3⟩
theorem app_end {W w' : World} {base d mb f n cap : Nat} {st fu : Int} {ao : Option Addr} {S : List UInt8} {D : List Deed} {lv v' : Value} {x : Deed} (hr : FileRow W f (.slice ao n cap) lv) (hs : IsBytesZ W ao n cap S) (ho : OwnD W base lv D)
    (hd : DiskRow W d mb st fu false) {M : List Ent} (hm : MapHas W mb M)
    (hg : W.grownBy w' lv.ownBlock) (ho' : OwnD w' base v' (D ++ [x])) (hrw : ∀ k, v'.ownBlock = some k → lv.ownBlock = some k ∨ W.heap.size ≤ k) (hfit : fitsD S (D ++ [x])) (hsm : S.length + ((D ++ [x]).map Deed.units).sum ≤ 4294967296) :
    DiskRow (w'.setCell ⟨f, 1, none⟩ v') d mb st fu false ∧ MapHas (w'.setCell ⟨f, 1, none⟩ v') mb M ∧ FileOwn (w'.setCell ⟨f, 1, none⟩ v') f base S (D ++ [x]) ∧ Moved d mb f W (w'.setCell ⟨f, 1, none⟩ v') := by
  have hr' : FileRow w' f (.slice ao n cap) lv := (hg.block f (heap_lt hr) (ho.ne hr (by decide))).trans hr
  have hd' : DiskRow w' d mb st fu false := (hg.block d (heap_lt hd) (ho.ne hd (by decide))).trans hd
  have hfd : d ≠ f := by rintro rfl; unfold DiskRow at hd; unfold FileRow at hr; rw [hr] at hd; cases hd
  obtain ⟨c, hbc, hm⟩ := hm
  have hm' := (hg.block mb (heap_lt hm) (ho.ne_map hm)).trans hm
  have hfm : mb ≠ f := by rintro rfl; unfold FileRow at hr; rw [hr] at hm; cases hm
  obtain ⟨al, capl, hlv, _⟩ := ho.deeds
  subst hlv
  refine ⟨(Below.heap_setCell _ _ _ _ hfd).trans hd', ⟨c, hbc, (Below.heap_setCell _ _ _ _ hfm).trans hm'⟩, ⟨⟨ao, n, cap, v', ?_, ?_, ?_⟩, hfit, hsm⟩, ?_⟩
  · exact heap_setCell_same w' f 1 _ _ v' hr'
  · refine (hs.kept ho hg).moved fun j off v hc => Below.heap_setCell _ _ _ _ ?_
    rintro rfl
    have := hr'.plain _ _ hc
    simp [plainV] at this
  · refine ho'.moved (fun j off v hc => Below.heap_setCell _ _ _ _ ?_) (fun g hgg => Below.heap_setCell _ _ _ _ ?_)
    · rintro rfl
      have := hr'.plain _ _ hc
      simp [plainV] at this
    · rintro rfl
      exact ho'.ne hr' (by decide) hgg.symm
  · refine ⟨hg.os, hg.tape, hg.output, by simpa using hg.size, fun j hj h1 h2 h3 h4 => ?_, fun k hk => ?_⟩
    · rw [Below.heap_setCell _ _ _ _ h3]
      exact hg.block j hj (fun e => h4 (by rw [rowOf_row hr]; exact e.symm))
    · rw [rowOf_row (heap_setCell_same w' f 1 _ _ v' hr')] at hk
      rw [rowOf_row hr]
      exact hrw k hk
theorem opwp_append_deed {w : World} {o : Oper} {a : Act} {K : Act → World → Prop} {Q : Exit → Act → World → Prop} (s y : Operand)
    (ho : o.op = .call { callee := .builtin .append, args := #[s, y], argTypes := #[59, 59] })
    (base : Nat) (lv : Value) (D : List Deed) (hs : a.eval s = lv) (hown : OwnD w base lv D) (g c : Nat) (hy : a.eval y = .slice (some ⟨g, 0, none⟩) 1 c) (u : Value) (x : Deed) (hc : w.cell? ⟨g, 0, none⟩ = some u) (hu : IsDeed w u x) (hzu : ZV u)
    (hD : D.length ≤ 1000000) (hbase : base ≤ w.heap.size) (h : ∀ v' w', OwnD w' base v' (D ++ [x]) → w.grownBy w' lv.ownBlock → (∀ g, v'.ownBlock = some g → lv.ownBlock = some g ∨ w.heap.size ≤ g) → K (a.put o.dst v') w') : o.wp Try.prog a w K Q := by
  obtain ⟨v', w', hr, h2, h3, h6⟩ := run_append_deed o.type base lv D hown g c u x hc hu hzu hD hbase
  unfold Oper.wp execOp
  simp only [ho, resolve, invoke, builtin, Sem.run_bind, Sem.run_pure, Result.andThen_ok, List.map_toArray, List.map_cons, List.map_nil, hs, hy, hr]
  exact h v' w' h2 h3 h6
theorem IsDeed.of_own {w : World} {base : Nat} {v : Value} {B : List UInt8} (h : OwnB w base v B) : IsDeed w (.iface 64 v) (.more B) := by
  obtain ⟨a, c, rfl, hb, _⟩ := h.bytes
  exact ⟨a, _, c, rfl, hb⟩
end Go.Proofs.Ytgbpgmbnihfkkaa
