/- disk: Rename, Remove -/
import Derived.Test.YtmpjjkfbojhfoaaDG
namespace Go.Proofs.Ytmpjjkfbojhfoaa
open Go.RowKit
set_option linter.unusedSectionVars false
variable [Zone]
theorem erase_filter {nm : ByteArray} : ∀ (M : List Ent) (i k g : Nat), (M.map (·.1)).Nodup → fnd nm M i = some (k, g) → i ≤ k ∧ M.eraseIdx (k - i) = M.filter (fun x => decide (x.1 ≠ nm))
  | [], _, _, _, _, h => by cases h
  | x :: M, i, k, g, hn, h => by
    rw [List.map_cons, List.nodup_cons] at hn
    unfold fnd at h
    rw [bytes_beq] at h
    by_cases hx : nm = x.1
    · rw [if_pos (by simp [hx])] at h
      injection h with h
      injection h with h1 h2
      subst h1
      refine ⟨Nat.le_refl _, ?_⟩
      rw [Nat.sub_self, List.eraseIdx_cons_zero, List.filter_cons_of_neg (by simp [hx])]
      refine (List.filter_eq_self.2 fun y hy => ?_).symm
      refine decide_eq_true fun e => hn.1 ?_
      rw [← hx, ← e]
      exact List.mem_map.2 ⟨y, hy, rfl⟩
    · rw [if_neg (by simp [hx])] at h
      obtain ⟨h1, h2⟩ := erase_filter M (i + 1) k g hn.2 h
      refine ⟨by omega, ?_⟩
      rw [List.filter_cons_of_pos (by simp; exact fun e => hx e.symm), show k - i = (k - (i + 1)) + 1 by omega, List.eraseIdx_cons_succ, h2]
theorem modify_map {nm : ByteArray} (f : Nat) : ∀ (M : List Ent) (i k g : Nat), (M.map (·.1)).Nodup → fnd nm M i = some (k, g) → i ≤ k ∧ M.modify (k - i) (fun x => (x.1, f, x.2.2)) = M.map (fun x => if x.1 = nm then (x.1, f, x.2.2) else x)
  | [], _, _, _, _, h => by cases h
  | x :: M, i, k, g, hn, h => by
    rw [List.map_cons, List.nodup_cons] at hn
    unfold fnd at h
    rw [bytes_beq] at h
    by_cases hx : nm = x.1
    · rw [if_pos (by simp [hx])] at h
      injection h with h
      injection h with h1 h2
      subst h1
      refine ⟨Nat.le_refl _, ?_⟩
      rw [Nat.sub_self, List.modify_zero_cons, List.map_cons, if_pos hx.symm]
      congr 1
      refine (List.map_congr_left (g := id) fun y hy => ?_).trans (List.map_id _) |>.symm
      refine if_neg fun e => hn.1 ?_
      rw [← hx, ← e]
      exact List.mem_map.2 ⟨y, hy, rfl⟩
    · rw [if_neg (by simp [hx])] at h
      obtain ⟨h1, h2⟩ := modify_map f M (i + 1) k g hn.2 h
      refine ⟨by omega, ?_⟩
      rw [List.map_cons, if_neg (fun e => hx e.symm), show k - i = (k - (i + 1)) + 1 by omega, List.modify_succ_cons, h2]
theorem fnd_some {nm : ByteArray} {f : Nat} {M : List Ent} (h : fileOf nm M = some f) : ∃ k, fnd nm M 0 = some (k, f) := by
  unfold fileOf at h
  cases hq : fnd nm M 0 with
  | none => rw [hq] at h; cases h
  | some p => rw [hq] at h; injection h with h; exact ⟨p.1, by rw [← h]⟩
theorem fnd_no {nm : ByteArray} {M : List Ent} (h : fileOf nm M = none) : fnd nm M 0 = none := by
  unfold fileOf at h
  cases hq : fnd nm M 0 with
  | none => rfl
  | some p => rw [hq] at h; cases h
theorem fileOf_none {nm : ByteArray} {M : List Ent} (h : fileOf nm M = none) : ∀ x ∈ M, x.1 ≠ nm := fun x hx e => fnd_none (fnd_no h) (by rw [← e]; exact List.mem_map.2 ⟨x, hx, rfl⟩)
theorem delE_filter {nm : ByteArray} {M : List Ent} (hn : (M.map (·.1)).Nodup) : delE nm M = M.filter (fun x => decide (x.1 ≠ nm)) := by
  cases hf : fileOf nm M with
  | none =>
    unfold delE
    rw [fnd_no hf]
    exact (List.filter_eq_self.2 fun y hy => decide_eq_true (fileOf_none hf y hy)).symm
  | some g =>
    obtain ⟨k, hk⟩ := fnd_some hf
    unfold delE
    rw [hk]
    exact (erase_filter M 0 k g hn hk).2
theorem putE_old {nm : ByteArray} {f g c : Nat} {M : List Ent} (hn : (M.map (·.1)).Nodup) (hf : fileOf nm M = some g) : putE nm f c M = M.map (fun x => if x.1 = nm then (x.1, f, x.2.2) else x) := by
  obtain ⟨k, hk⟩ := fnd_some hf
  unfold putE
  rw [hk]
  exact (modify_map f M 0 k g hn hk).2
theorem putE_new {nm : ByteArray} {f c : Nat} {M : List Ent} (hf : fileOf nm M = none) : putE nm f c M = M ++ [(nm, f, c)] := by
  unfold putE
  rw [fnd_no hf]
theorem MapFit.sub {M M' : List Ent} {c : Nat} (h : MapFit M c) (hs : M'.Sublist M) : MapFit M' c :=
  ⟨fun x hx => h.clock x (hs.subset hx), h.rise.sublist hs, h.once.sublist (hs.map _), fun x hx => h.fit x (hs.subset hx), Nat.le_trans hs.length_le h.few⟩
theorem MapFit.del {nm : ByteArray} {M : List Ent} {c : Nat} (h : MapFit M c) : MapFit (delE nm M) c := by
  rw [delE_filter h.once]
  exact h.sub List.filter_sublist
theorem MapFit.put {nm : ByteArray} {f c : Nat} {M : List Ent} (h : MapFit M c) (hn : nameP nm.data.toList = true) (hml : M.length < 16) : MapFit (putE nm f c M) (clockE nm c M) := by
  cases hf : fileOf nm M with
  | none =>
    rw [putE_new hf]
    have : clockE nm c M = c + 1 := by
      unfold clockE
      rw [fnd_no hf]
    rw [this]
    exact h.push hf hn hml
  | some g =>
    have : clockE nm c M = c := by
      obtain ⟨k, hk⟩ := fnd_some hf
      unfold clockE
      rw [hk]
    rw [putE_old h.once hf, this]
    have e1 : ∀ x : Ent, (if x.1 = nm then ((x.1, f, x.2.2) : Ent) else x).1 = x.1 := fun x => by split <;> rfl
    have e2 : ∀ x : Ent, (if x.1 = nm then ((x.1, f, x.2.2) : Ent) else x).2.2 = x.2.2 := fun x => by split <;> rfl
    refine ⟨fun x hx => ?_, ?_, ?_, fun x hx => ?_, by rw [List.length_map]; exact h.few⟩
    · obtain ⟨y, hy, rfl⟩ := List.mem_map.1 hx
      rw [e2]
      exact h.clock y hy
    · rw [List.pairwise_map]
      exact h.rise.imp (fun {a b} hab => by rw [e2, e2]; exact hab)
    · rw [List.map_map]
      rw [show ((fun x : Ent => x.1) ∘ fun x : Ent => if x.1 = nm then ((x.1, f, x.2.2) : Ent) else x) = fun x => x.1 from funext fun x => e1 x]
      exact h.once
    · obtain ⟨y, hy, rfl⟩ := List.mem_map.1 hx
      rw [e1]
      exact h.fit y hy
theorem delE_mem {nm : ByteArray} {M : List Ent} (hn : (M.map (·.1)).Nodup) {x : Ent} : x ∈ delE nm M ↔ x ∈ M ∧ x.1 ≠ nm := by
  rw [delE_filter hn, List.mem_filter, decide_eq_true_eq]
theorem putE_mem {nm : ByteArray} {f c : Nat} {M : List Ent} (hn : (M.map (·.1)).Nodup) {x : Ent} (hx : x ∈ putE nm f c M) : (x.1 = nm ∧ x.2.1 = f) ∨ (x ∈ M ∧ x.1 ≠ nm) := by
  cases hf : fileOf nm M with
  | none =>
    rw [putE_new hf] at hx
    rcases List.mem_append.1 hx with hx | hx
    · exact .inr ⟨hx, fileOf_none hf x hx⟩
    · simp only [List.mem_singleton] at hx
      subst hx
      exact .inl ⟨rfl, rfl⟩
  | some g =>
    rw [putE_old hn hf] at hx
    obtain ⟨y, hy, rfl⟩ := List.mem_map.1 hx
    by_cases e : y.1 = nm
    · rw [if_pos e]
      exact .inl ⟨e, rfl⟩
    · rw [if_neg e]
      exact .inr ⟨hy, e⟩
theorem delE_short {nm : ByteArray} {f : Nat} {M : List Ent} (hf : fileOf nm M = some f) : (delE nm M).length < M.length := by
  obtain ⟨k, hk⟩ := fnd_some hf
  obtain ⟨j, b, e, hj⟩ := fnd_spec nm M 0 k f hk
  have hlt : k < M.length := by
    have := (List.getElem?_eq_some_iff.1 hj).1
    omega
  unfold delE
  rw [hk]
  dsimp only
  rw [List.length_eraseIdx_of_lt hlt]
  omega
/-- only the map's block changes. -/
theorem DiskG.remap {w w' : World} {st fu st' fu' : Int} {out out' : Bool} {d mb base : Nat} {M M' : List Ent} {C : Cont} (h : DiskG w st fu out d mb base M C) (hb : base ≤ w.heap.size) (hos : w'.os = w.os ∧ w'.tape = w.tape ∧ w'.output = w.output) (hsz : w.heap.size ≤ w'.heap.size) (hbl : ∀ j, j < w.heap.size → j ≠ d → j ≠ mb → w'.heap[j]? = w.heap[j]?)
    (hdm : DiskM w' st' fu' out' d mb M') (hsub : ∀ x ∈ M', ∃ y ∈ M, y.2.1 = x.2.1) (hap : ∀ x ∈ M', ∀ y ∈ M', x.2.1 = y.2.1 → x.1 = y.1) :
    DiskG w' st' fu' out' d mb base M' C ∧ Kept d mb base w w' := by
  obtain ⟨q1, q2, q3, c, q4, q5⟩ := h.dm
  have hoth : ∀ y ∈ M, FileOwn w' y.2.1 base (C y.2.1).1 (C y.2.1).2 ∧ rowOf w' y.2.1 = rowOf w y.2.1 := fun y hy => by
    have hf := (h.own y hy).2
    refine ⟨hf.moved (fun j => j = d ∨ j = mb) (fun j e => ?_) (fun e => ?_) (fun c t j e => ?_) (fun j hj hn => hbl j hj (fun e => hn (.inl e)) (fun e => hn (.inr e))), rowOf_same (hbl _ hf.at.lt (hf.at.ne_disk q3) (hf.at.ne_map q5))⟩
    · rcases e with rfl | rfl
      · exact q3.plain
      · exact map_plain q5
    · rcases e with e | e
      · exact hf.at.ne_disk q3 e
      · exact hf.at.ne_map q5 e
    · rcases e with rfl | rfl
      · unfold DiskRow at q3; rw [q3]; simp
      · rw [q5]; intro e; cases e
  have hlow := h.low
  refine ⟨⟨hdm, h.low, fun x hx => ?_, hap, fun x hx y hy hne k hk => ?_, h.zone.mono hsz⟩, ⟨⟨hos.1, hos.2.1, hos.2.2, hsz, fun j hj => hbl j (by omega) (by omega) (by omega)⟩, fun j hj h1 h2 _ _ => hbl j hj h1 h2⟩⟩
  · obtain ⟨y, hy, e⟩ := hsub x hx
    rw [← e]
    exact ⟨(h.own y hy).1, (hoth y hy).1⟩
  · obtain ⟨x', hx', e1⟩ := hsub x hx
    obtain ⟨y', hy', e2⟩ := hsub y hy
    rw [← e1] at hne hk
    rw [← e2] at hne ⊢
    rw [(hoth x' hx').2] at hk
    rw [(hoth y' hy').2]
    exact h.rows x' hx' y' hy' hne k hk
end Go.Proofs.Ytmpjjkfbojhfoaa

/- disk: what Rename and Remove do behind the step -/
namespace Go.Proofs.Ytmpjjkfbojhfoaa
open Go.RowKit
set_option linter.unusedSectionVars false
variable [Zone]
theorem setObjAt_self (w : World) (mb : Nat) (o : Obj) (h : mb < w.heap.size) : (setObjAt w mb o).heap[mb]? = some o := by
  unfold setObjAt
  simp [h]
theorem setObjAt_size (w : World) (mb : Nat) (o : Obj) : (setObjAt w mb o).heap.size = w.heap.size := by
  unfold setObjAt
  simp
set_option maxRecDepth 100000 in
theorem RemDo_any (nm : ByteArray) (bd bn d mb : Nat) (M : List Ent) (st fu : Int) (w : World)
    (hbd : w.heap[bd]? = some (.cells #[.pointer (some ⟨d, 0, none⟩)] 27 (0, 0))) (hbn : w.heap[bn]? = some (.cells #[.string nm] 9 (0, 0))) (hdm : DiskM w st fu false d mb M) :
    Calls Try.prog 48 #[.pointer (some ⟨bd, 0, none⟩), .pointer (some ⟨bn, 0, none⟩)] w
      fun e w' => e = .returned (.tuple #[]) ∧ DiskM w' st fu false d mb (delE nm M) ∧ ∃ o, w' = setObjAt w.drew mb o := by
  obtain ⟨hfu, hmd, hd, c, hfit, hm⟩ := hdm
  have p1 : w.cell? ⟨bd, 0, none⟩ = some (.pointer (some ⟨d, 0, none⟩)) := cell_of_row _ _ _ _ _ _ hbd
  have p2 : w.cell? ⟨bn, 0, none⟩ = some (.string nm) := cell_of_row _ _ _ _ _ _ hbn
  have h0 := hd.cells.1
  have hdel := fun ty => del_ents nm c mb M w.drew ty hm
  have HRES : Hid (DiskM (setObjAt w.drew mb (.map (ents (delE nm M)) c)) st fu false d mb (delE nm M)) := Lib.hid ⟨hfu, hmd, (heap_setObjAt w.drew mb d _ (by omega)).trans hd, c, hfit.del, setObjAt_self _ _ _ (heap_lt hm)⟩
  clear hfu hmd hd hfit hm hbd hbn
  generalize hW : setObjAt w.drew mb (.map (ents (delE nm M)) c) = W at hdel HRES
  have HW := Lib.hid hW
  clear hW
  go_enter Try.func48, Try.ntmps48
  go_wp2
  go_region
  go_wp2
  go_end0
  exact ⟨rfl, HRES.out, _, HW.out.symm⟩
set_option maxRecDepth 100000 in
theorem RenDo_any (nm to : ByteArray) (bd bn p bt d mb f : Nat) (M : List Ent) (st fu : Int) (w : World) (hnt : nameP to.data.toList = true) (hfo : fileOf nm M = some f)
    (hp : w.heap[p]? = some (.cells #[.pointer (some ⟨f, 0, none⟩)] 72 (0, 0))) (hbt : w.heap[bt]? = some (.cells #[.string to] 9 (0, 0)))
    (hbd : w.heap[bd]? = some (.cells #[.pointer (some ⟨d, 0, none⟩)] 27 (0, 0))) (hbn : w.heap[bn]? = some (.cells #[.string nm] 9 (0, 0))) (hdm : DiskM w st fu false d mb M) :
    Calls Try.prog 54 #[.pointer (some ⟨bd, 0, none⟩), .pointer (some ⟨bn, 0, none⟩), .pointer (some ⟨p, 0, none⟩), .pointer (some ⟨bt, 0, none⟩)] w
      fun e w' => e = .returned (.tuple #[]) ∧ ∃ c, DiskM w' st fu false d mb (putE to f c (delE nm M)) ∧ ∃ o o', w' = setObjAt (setObjAt w.drew mb o').drew mb o := by
  obtain ⟨hfu, hmd, hd, c, hfit, hm⟩ := hdm
  have p1 : w.cell? ⟨bd, 0, none⟩ = some (.pointer (some ⟨d, 0, none⟩)) := cell_of_row _ _ _ _ _ _ hbd
  have p2 : w.cell? ⟨bn, 0, none⟩ = some (.string nm) := cell_of_row _ _ _ _ _ _ hbn
  have h0 := hd.cells.1
  have hdel := fun ty => del_ents nm c mb M w.drew ty hm
  have hne : ∀ {j : Nat} {cs : Array Value} {t : TypeId} {fr : Nat × Nat}, w.heap[j]? = some (.cells cs t fr) → j ≠ mb := by
    rintro j cs t fr h rfl
    rw [hm] at h
    cases h
  obtain ⟨W, hW⟩ : ∃ W, W = setObjAt w.drew mb (.map (ents (delE nm M)) c) := ⟨_, rfl⟩
  have hmW : W.heap[mb]? = some (.map (ents (delE nm M)) c) := by rw [hW]; exact setObjAt_self _ _ _ (heap_lt hm)
  have hjW : ∀ j, j ≠ mb → W.heap[j]? = w.heap[j]? := fun j hj => by rw [hW]; exact heap_setObjAt w.drew mb j _ hj
  have hdW : DiskRow W d mb st fu false := (hjW d (by omega)).trans hd
  have hput := put_ents to f c mb (delE nm M) W.drew hmW
  have q1 : W.cell? ⟨bd, 0, none⟩ = some (.pointer (some ⟨d, 0, none⟩)) := cell_of_row _ _ _ _ _ _ ((hjW bd (hne hbd)).trans hbd)
  have q2 : W.cell? ⟨bt, 0, none⟩ = some (.string to) := cell_of_row _ _ _ _ _ _ ((hjW bt (hne hbt)).trans hbt)
  have q3 : W.cell? ⟨p, 0, none⟩ = some (.pointer (some ⟨f, 0, none⟩)) := cell_of_row _ _ _ _ _ _ ((hjW p (hne hp)).trans hp)
  have q0 := hdW.cells.1
  obtain ⟨X, hX⟩ : ∃ X, X = setObjAt W.drew mb (.map (ents (putE to f c (delE nm M))) (clockE to c (delE nm M))) := ⟨_, rfl⟩
  have HRES : Hid (DiskM X st fu false d mb (putE to f c (delE nm M))) := Lib.hid (by
    rw [hX]
    exact ⟨hfu, hmd, (heap_setObjAt W.drew mb d _ (by omega)).trans hdW, _, hfit.del.put hnt (by have := delE_short hfo; have := hfit.few; omega), setObjAt_self _ _ _ (heap_lt hmW)⟩)
  rw [← hX] at hput
  rw [← hW] at hdel
  have HX : Hid (∃ o o', X = setObjAt (setObjAt w.drew mb o').drew mb o) := Lib.hid ⟨_, _, by rw [hX, hW]⟩
  clear hfu hmd hd hfit hm hbd hbn hbt hp hne hjW hdW hW hX hmW hfo hnt
  go_enter Try.func54, Try.ntmps54
  go_wp2
  go_region
  go_wp2
  go_region
  go_wp2
  go_end0
  exact ⟨rfl, c, HRES.out, HX.out⟩
end Go.Proofs.Ytmpjjkfbojhfoaa
