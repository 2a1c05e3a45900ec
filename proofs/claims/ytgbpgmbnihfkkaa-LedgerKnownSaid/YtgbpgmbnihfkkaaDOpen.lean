/- disk: New, none, down; atomic.Int64.Add -/
import Derived.Test.YtgbpgmbnihfkkaaKit
import Derived.Carry
import Derived.Laws.LoneSync
import Derived.WalkSpells
namespace Go.Proofs.Ytgbpgmbnihfkkaa
open Go.RowKit
/-- a disk's own cells: its files' map, how many steps, its fuse, whether it is out. -/
def DiskRow (w : World) (d mb : Nat) (st fu : Int) (out : Bool) : Prop := w.heap[d]? = some (.cells #[.map (some mb), .int .i64 st, .int .i64 fu, .bool out] 47 (0, 0))
theorem DiskRow.cells {w : World} {d mb : Nat} {st fu : Int} {out : Bool} (h : DiskRow w d mb st fu out) :
    w.cell? ⟨d, 0, none⟩ = some (.map (some mb)) ∧ w.cell? ⟨d, 1, none⟩ = some (.int .i64 st) ∧ w.cell? ⟨d, 2, none⟩ = some (.int .i64 fu) ∧ w.cell? ⟨d, 3, none⟩ = some (.bool out) :=
  ⟨cell_of_row _ _ _ _ _ _ h, cell_of_row _ _ _ _ _ _ h, cell_of_row _ _ _ _ _ _ h, cell_of_row _ _ _ _ _ _ h⟩
theorem New_any (w : World) : Calls Try.prog 4 #[] w fun e w' => ∃ d mb, e = .returned (.pointer (some ⟨d, 0, none⟩)) ∧ w.heap.size ≤ mb ∧ mb < d ∧ DiskRow w' d mb 0 (-1) false ∧ w'.heap[mb]? = some (.map #[] 0) ∧ Below w.heap.size w w' := by
  have hmm := @run_makeMap Try.prog
  go_enter Try.func4, Try.ntmps4
  go_wp2
  go_ret
  refine ⟨w.heap.size + 1, w.heap.size, rfl, Nat.le_refl _, Nat.lt_succ_self _, ?_, ?_, ((Below.refl _ _).alloc (Nat.le_refl _) _).alloc (by simp) _⟩
  · unfold DiskRow
    have h := heap_alloc_new (w.alloc (Obj.map #[] 0)) (Obj.cells #[Value.map (some w.heap.size), Value.int IntKind.i64 0, Value.int IntKind.i64 (-1), Value.bool false] 47)
    rwa [show (w.alloc (Obj.map #[] 0)).heap.size = w.heap.size + 1 by simp] at h
  · rw [Below.heap_alloc _ _ _ (by simp)]
    exact heap_alloc_new _ _
theorem AddInt_any (b off : Nat) (n : Int) (w : World) (h : w.cell? ⟨b, off, none⟩ = some (.int .i64 n)) (hf : w.frozen? ⟨b, off, none⟩ = false) :
    Calls Try.prog 43 #[.pointer (some ⟨b, off, none⟩), .int .i64 1] w fun e w' => (∃ v, e = .returned v) ∧ w' = w.setCell ⟨b, off, none⟩ (.int .i64 (wrap64 (n + 1))) := by
  have hadd := run_call_add (P := Try.prog) Try.func51 (by kernel_rfl) (by kernel_rfl) (by kernel_rfl) .i64 (by kernel_rfl) (y := 1) (s := wrap64 (n + 1)) h hf (by simp [go_sem]; exact IntWalk.i64_left _)
  go_enter Try.func43, Try.ntmps43
  go_wp2
  go_ret
  exact ⟨⟨_, rfl⟩, rfl⟩
set_option maxRecDepth 100000 in
theorem none_any (d mb : Nat) (st fu : Int) (out : Bool) (w : World) (h : DiskRow w d mb st fu out) :
    Calls Try.prog 19 #[.pointer (some ⟨d, 0, none⟩)] w fun e w' => e = .returned (.bool false) ∧ w = w' := by
  obtain ⟨h0, h1, h2, h3⟩ := h.cells
  clear h h1 h2 h3
  have hem := fun w' => run_eql_map_nil (P := Try.prog) w' 40 9 55 (some mb) Try.underlying40
  go_enter Try.func19, Try.ntmps19
  go_wp2
  go_ret
  exact ⟨rfl, rfl⟩
theorem none_nil (w : World) : Calls Try.prog 19 #[.pointer none] w fun e w' => e = .returned (.bool true) ∧ w = w' := by
  go_enter Try.func19, Try.ntmps19
  go_wp2
  go_ret
  exact ⟨rfl, rfl⟩
theorem down_any (d mb : Nat) (st fu : Int) (w : World) (h : DiskRow w d mb st fu false) :
    Calls Try.prog 23 #[.pointer (some ⟨d, 0, none⟩)] w fun e w' => e = .returned (.int .i64 0) ∧ w = w' := by
  obtain ⟨h0, h1, h2, h3⟩ := h.cells
  have H := Lib.hid h
  clear h h0 h1 h2
  go_enter Try.func23, Try.ntmps23
  go_wp2_with fail
  refine (none_any _ _ _ _ _ _ H.out).mono ?_
  rintro e w' ⟨rfl, rfl⟩
  go_wp2_with fail
  go_ret
  exact ⟨rfl, rfl⟩
theorem down_nil (w : World) : Calls Try.prog 23 #[.pointer none] w fun e w' => e = .returned (.int .i64 1) ∧ w = w' := by
  go_enter Try.func23, Try.ntmps23
  go_wp2_with fail
  refine (none_nil _).mono ?_
  rintro e w' ⟨rfl, rfl⟩
  go_wp2_with fail
  go_ret
  exact ⟨rfl, rfl⟩
/-- may bytes be a file's name? -/
def nameP (s : List UInt8) : Bool := s.all (fun b => decide (33 ≤ b.toNat) && decide (b.toNat ≤ 126)) && decide (1 ≤ s.length) && decide (s.length ≤ 64)
end Go.Proofs.Ytgbpgmbnihfkkaa

/- disk: named -/
namespace Go.Proofs.Ytgbpgmbnihfkkaa
open Go.RowKit
theorem bytes_same (nm : ByteArray) : (nm == nm) = true := by
  show ByteArray.beq nm nm = true
  unfold ByteArray.beq
  simp
theorem bytes_eq (nm x : ByteArray) (h : (nm == x) = true) : nm = x := by
  change ByteArray.beq nm x = true at h
  unfold ByteArray.beq at h
  simp at h
  cases nm; cases x; simp_all
theorem bytes_beq (nm x : ByteArray) : (nm == x) = decide (nm = x) := by
  cases h : (nm == x) with
  | true => rw [bytes_eq _ _ h]; simp
  | false =>
    have : nm ≠ x := by
      rintro rfl
      rw [bytes_same] at h
      cases h
    simp [this]
theorem name_bad {nm : ByteArray} {k : Nat} (hk : k < nm.size) (h : (nm[k]'hk).toNat < 33 ∨ 126 < (nm[k]'hk).toNat) : nameP nm.data.toList = false := by
  cases hn : nameP nm.data.toList with
  | false => rfl
  | true =>
    unfold nameP at hn
    simp only [Bool.and_eq_true, List.all_eq_true, decide_eq_true_eq] at hn
    have := hn.1.1 (nm[k]'hk) (by
      show nm.data[k]'hk ∈ _
      exact Array.mem_toList_iff.2 (Array.getElem_mem hk))
    omega
theorem name_fit {nm : ByteArray} (h : ∀ j (hj : j < nm.size), 33 ≤ (nm[j]'hj).toNat ∧ (nm[j]'hj).toNat ≤ 126) : nameP nm.data.toList = (decide (1 ≤ nm.size) && decide (nm.size ≤ 64)) := by
  have : (nm.data.toList.all fun b => decide (33 ≤ b.toNat) && decide (b.toNat ≤ 126)) = true := by
    rw [List.all_eq_true]
    intro b hb
    obtain ⟨j, hj, rfl⟩ := List.getElem_of_mem hb
    have hj' : j < nm.size := by simpa using hj
    have := h j hj'
    simp only [Bool.and_eq_true, decide_eq_true_eq]
    exact this
  unfold nameP
  rw [this]
  rfl
set_option maxRecDepth 100000 in
theorem named_any (nm : ByteArray) (w : World) (hnm : nm.size ≤ 1099511627776) : Calls Try.prog 24 #[.string nm] w fun e w' => e = .returned (.bool (nameP nm.data.toList)) ∧ w = w' := by
  go_enter Try.func24, Try.ntmps24
  go_wp2
  go_loopw [6] (fun i wr => ∃ k : Nat, k ≤ nm.size ∧ i = .int .i64 k ∧ Hid (∀ j (hj : j < nm.size), j < k → 33 ≤ (nm[j]'hj).toNat ∧ (nm[j]'hj).toNat ≤ 126) ∧ w = wr) (fun i _ => nm.size - (intOf i).toNat)
  case atStart => exact ⟨0, by omega, rfl, Lib.hid (fun j hj h => absurd h (by omega)), rfl⟩
  case round =>
    obtain ⟨k, hk, rfl, hall, rfl⟩ := hrel
    by_cases hlt : k < nm.size
    · have hk0 : (0 : Int) ≤ (k : Int) := by omega
      have hk1 : (k : Int) < (nm.size : Int) := by omega
      by_cases hr1 : ((nm[k].toNat : Nat) : Int) < 33
      · have hbad := Lib.hid (name_bad hlt (.inl (by omega)))
        go_wp2
        go_ret
        exact ⟨by rw [hbad.out]; rfl, rfl⟩
      by_cases hr2 : (126 : Int) < ((nm[k].toNat : Nat) : Int)
      · have hbad := Lib.hid (name_bad hlt (.inr (by omega)))
        go_wp2
        go_ret
        exact ⟨by rw [hbad.out]; rfl, rfl⟩
      go_wp2
      go_roundw
      case rel =>
        refine ⟨k + 1, by omega, by go_num, Lib.hid (fun j hj h => ?_), trivial⟩
        by_cases hjk : j < k
        · exact hall.out j hj hjk
        · obtain rfl : j = k := by omega
          omega
      case measure => simp [intOf]; omega
    · obtain rfl : k = nm.size := by omega
      have HF := Lib.hid (name_fit (fun j hj => hall.out j hj hj))
      by_cases h1 : (1 : Int) ≤ (nm.size : Int)
      · by_cases h2 : (nm.size : Int) ≤ 64
        · go_wp2
          go_ret
          exact ⟨by rw [HF.out]; simp; omega, rfl⟩
        · go_wp2
          go_ret
          exact ⟨by rw [HF.out]; simp; omega, rfl⟩
      · go_wp2
        go_ret
        exact ⟨by rw [HF.out]; simp; omega, rfl⟩
theorem named_log {nm : ByteArray} (w : World) (hn : nameP nm.data.toList = true) : Calls Try.prog 24 #[.string nm] w fun e w' => e = .returned (.bool true) ∧ w = w' := by
  have h : nm.size ≤ 64 := by
    unfold nameP at hn
    simp only [Bool.and_eq_true, decide_eq_true_eq] at hn
    exact hn.2
  refine (named_any nm w (by omega)).mono ?_
  rintro e w' ⟨rfl, rfl⟩
  exact ⟨by rw [hn], rfl⟩
end Go.Proofs.Ytgbpgmbnihfkkaa

/- disk: the map of files -/
namespace Go.Proofs.Ytgbpgmbnihfkkaa
open Go.RowKit
/-- the world with another object in block mb. -/
def setObjAt (w : World) (mb : Nat) (o : Obj) : World := { w with heap := w.heap.setIfInBounds mb o }
/-- an entry: a file's name, its block, when it was laid. -/
abbrev Ent := ByteArray × Nat × Nat
def ent (x : Ent) : MapEntry := { key := .string x.1, val := .pointer (some ⟨x.2.1, 0, none⟩), born := x.2.2 }
def ents (M : List Ent) : Array MapEntry := (M.map ent).toArray
/-- where a name stands, and which file it has. -/
def fnd (nm : ByteArray) : List Ent → Nat → Option (Nat × Nat)
  | [], _ => none
  | x :: M, i => if nm == x.1 then some (i, x.2.1) else fnd nm M (i + 1)
theorem findNow_ents (nm : ByteArray) : ∀ (M : List Ent) (i : Nat), Instr.findNow .string (.string nm) (M.map ent) i = some ((fnd nm M i).map fun p => (p.1, .pointer (some ⟨p.2, 0, none⟩)))
  | [], _ => rfl
  | x :: M, i => by
    have ih := findNow_ents nm M (i + 1)
    simp only [List.map_cons, Instr.findNow, fnd]
    have e : Instr.sameNow .string (.string nm) (ent x).key = some (nm == x.1) := rfl
    rw [e]
    cases h : (nm == x.1) with
    | true => rfl
    | false => simpa using ih
theorem check_any (nm : ByteArray) (em : Bool) (w : World) : (Instr.checkKey em 10000 9 (.string nm)).run Try.prog w = .ok () w := by
  rw [show (10000 : Nat) = 9999 + 1 from rfl, Instr.checkKey]
  simp [run_underlying Try.underlying9]
theorem find_ents (nm : ByteArray) (M : List Ent) (w : World) : (Instr.findKey 9 (.string nm) (M.map ent)).run Try.prog w = .ok ((fnd nm M 0).map fun p => (p.1, .pointer (some ⟨p.2, 0, none⟩))) w := by
  simp [Instr.findKey, findNow_ents, run_underlying Try.underlying9]
/-- the file that a name has. -/
def fileOf (nm : ByteArray) (M : List Ent) : Option Nat := (fnd nm M 0).map (·.2)
theorem look_ents (nm : ByteArray) (M : List Ent) (w : World) (mb c : Nat) (h : w.heap[mb]? = some (.map (ents M) c)) : (Instr.lookup 40 (.map (some mb)) (.string nm) false).run Try.prog w = .ok (.pointer ((fileOf nm M).map fun f => ⟨f, 0, none⟩)) w := by
  unfold Instr.lookup fileOf
  have e : (ents M).toList = M.map ent := by simp [ents]
  cases hf : fnd nm M 0 with
  | none =>
    have hr := find_ents nm M w
    rw [hf] at hr
    simp [run_underlying Try.underlying40, MapKept.run_getObj_map h, check_any, e, hr, Result.andThen]
  | some p =>
    have hr := find_ents nm M w
    rw [hf] at hr
    simp [run_underlying Try.underlying40, MapKept.run_getObj_map h, check_any, e, hr, Result.andThen]
theorem len_ents (w : World) (mb c : Nat) (M : List Ent) (ty : TypeId) (h : w.heap[mb]? = some (.map (ents M) c)) : (Builtin.len_ #[40] ty #[.map (some mb)]).run Try.prog w = .ok (.int .i64 (M.length : Nat)) w := by
  simp [Builtin.len_, run_underlying Try.underlying40, MapKept.run_getObj_map h, goInt, Result.andThen, ents]
theorem fnd_spec (nm : ByteArray) : ∀ (M : List Ent) (i k f : Nat), fnd nm M i = some (k, f) → ∃ j b, k = i + j ∧ M[j]? = some (nm, f, b)
  | [], _, _, _, h => by cases h
  | x :: M, i, k, f, h => by
    unfold fnd at h
    cases hx : (nm == x.1) with
    | true =>
      rw [hx, if_pos rfl] at h
      injection h with h
      injection h with h1 h2
      have : nm = x.1 := bytes_eq _ _ hx
      exact ⟨0, x.2.2, h1.symm, by rw [this, ← h2]; rfl⟩
    | false =>
      rw [hx, if_neg (by simp)] at h
      obtain ⟨j, b, e, hj⟩ := fnd_spec nm M (i + 1) k f h
      exact ⟨j + 1, b, by omega, by simpa using hj⟩
theorem stays_any (nm : ByteArray) (w : World) : (Instr.keyThatStays (.string nm) (.string nm)).run Try.prog w = .ok (.string nm) w := by
  have e : Instr.sameBits 10000 (.string nm) (.string nm) = true := by
    rw [show (10000 : Nat) = 9999 + 1 from rfl, Instr.sameBits]
    simp [bytes_same]
  unfold Instr.keyThatStays
  rw [e]
  rfl
/-- a file under a name, in the place of the one that had it. -/
def putE (nm : ByteArray) (f c : Nat) (M : List Ent) : List Ent := match fnd nm M 0 with
  | some (k, _) => M.modify k fun x => (x.1, f, x.2.2)
  | none => M ++ [(nm, f, c)]
def clockE (nm : ByteArray) (c : Nat) (M : List Ent) : Nat := match fnd nm M 0 with
  | some _ => c
  | none => c + 1
/-- the files without a name's. -/
def delE (nm : ByteArray) (M : List Ent) : List Ent := match fnd nm M 0 with
  | some (k, _) => M.eraseIdx k
  | none => M
theorem put_ents (nm : ByteArray) (f c mb : Nat) (M : List Ent) (w : World) (h : w.heap[mb]? = some (.map (ents M) c)) :
    (Instr.mapUpdate 40 (.map (some mb)) (.string nm) (.pointer (some ⟨f, 0, none⟩))).run Try.prog w = .ok () (setObjAt w mb (.map (ents (putE nm f c M)) (clockE nm c M))) := by
  unfold Instr.mapUpdate putE clockE
  have e : (ents M).toList = M.map ent := by simp [ents]
  have hr := find_ents nm M w
  cases hf : fnd nm M 0 with
  | none =>
    rw [hf] at hr
    simp [run_underlying Try.underlying40, MapKept.run_getObj_map h, check_any, e, hr, Result.andThen, MapKept.run_setObj_map _ h]
    rw [show (ents M).push { key := .string nm, val := .pointer (some ⟨f, 0, none⟩), born := c } = ents (M ++ [(nm, f, c)]) by simp [ents, ent]]
    rfl
  | some p =>
    obtain ⟨k, g⟩ := p
    obtain ⟨j, b, hk, hj⟩ := fnd_spec nm M 0 k g hf
    rw [Nat.zero_add] at hk
    subst hk
    rw [hf] at hr
    have hkey : (((ents M)[k]?).map (·.key)).getD (.string nm) = .string nm := by simp [ents, hj, ent]
    have hmod : ((ents M).modify k fun e => { e with key := .string nm, val := .pointer (some ⟨f, 0, none⟩) }) = ents (M.modify k fun x => (x.1, f, x.2.2)) := by
      apply Array.ext_getElem?
      intro i
      simp only [ents, Array.getElem?_modify, List.getElem?_toArray, List.getElem?_map, List.getElem?_modify]
      by_cases hik : k = i
      · subst hik
        simp [hj, ent]
      · simp [hik]
    simp [run_underlying Try.underlying40, MapKept.run_getObj_map h, check_any, e, hr, Result.andThen, hkey, stays_any, MapKept.run_setObj_map _ h]
    rw [hmod]
    rfl
theorem erase_map {α β : Type} (g : α → β) : ∀ (l : List α) (k : Nat), (l.map g).eraseIdx k = (l.eraseIdx k).map g
  | [], _ => rfl
  | _ :: _, 0 => rfl
  | x :: l, k + 1 => by simp [erase_map g l k]
theorem del_ents (nm : ByteArray) (c mb : Nat) (M : List Ent) (w : World) (ty : TypeId) (h : w.heap[mb]? = some (.map (ents M) c)) :
    (Builtin.delete_ #[40, 9] ty #[.map (some mb), .string nm]).run Try.prog w = .ok (.tuple #[]) (setObjAt w mb (.map (ents (delE nm M)) c)) := by
  unfold Builtin.delete_ delE
  have e : (ents M).toList = M.map ent := by simp [ents]
  have hr := find_ents nm M w
  cases hf : fnd nm M 0 with
  | none =>
    rw [hf] at hr
    simp [run_underlying Try.underlying40, MapKept.run_getObj_map h, check_any, e, hr, Result.andThen, MapKept.run_setObj_map _ h]
    rfl
  | some p =>
    obtain ⟨k, g⟩ := p
    rw [hf] at hr
    have hmod : (ents M).eraseIdxIfInBounds k = ents (M.eraseIdx k) := by
      obtain ⟨j, b, hk, hj⟩ := fnd_spec nm M 0 k g hf
      rw [Nat.zero_add] at hk
      subst hk
      have hlt : k < (ents M).size := by
        have := List.getElem?_eq_some_iff.1 hj
        simpa [ents] using this.1
      unfold Array.eraseIdxIfInBounds
      rw [dif_pos hlt]
      apply Array.toList_inj.1
      rw [Array.toList_eraseIdx, e]
      simp [ents, erase_map]
    simp [run_underlying Try.underlying40, MapKept.run_getObj_map h, check_any, e, hr, Result.andThen, MapKept.run_setObj_map _ h]
    rw [hmod]
    rfl
theorem look_none {nm : ByteArray} (w : World) (mb c : Nat) (M : List Ent) (h : w.heap[mb]? = some (.map (ents M) c)) (hf : fileOf nm M = none) : (Instr.lookup 40 (.map (some mb)) (.string nm) false).run Try.prog w = .ok (.pointer none) w := by
  rw [look_ents nm M w mb c h, hf]
  rfl
theorem look_log {nm : ByteArray} {f : Nat} (w : World) (mb c : Nat) (M : List Ent) (h : w.heap[mb]? = some (.map (ents M) c)) (hf : fileOf nm M = some f) : (Instr.lookup 40 (.map (some mb)) (.string nm) false).run Try.prog w = .ok (.pointer (some ⟨f, 0, none⟩)) w := by
  rw [look_ents nm M w mb c h, hf]
  rfl
end Go.Proofs.Ytgbpgmbnihfkkaa

/- disk: open of "log"; Clone of bytes -/
namespace Go.Proofs.Ytgbpgmbnihfkkaa
open Go.RowKit
variable {nm : ByteArray}
set_option maxRecDepth 100000 in
theorem open_nil (nv : Value) (w : World) : Calls Try.prog 34 #[.pointer none, nv] w fun e w' => e = .returned (.tuple #[.pointer none, .int .i64 1]) ∧ w = w' := by
  go_enter Try.func34, Try.ntmps34
  go_wp2_with fail
  refine (down_nil _).mono ?_
  rintro e w' ⟨rfl, rfl⟩
  go_wp2_with fail
  go_ret2
  exact ⟨rfl, rfl⟩
set_option maxRecDepth 100000 in
theorem open_none (d mb c : Nat) (M : List Ent) (st fu : Int) (w : World) (h : DiskRow w d mb st fu false) (hm : w.heap[mb]? = some (.map (ents M) c)) (hfo : fileOf nm M = none) :
    Calls Try.prog 34 #[.pointer (some ⟨d, 0, none⟩), .string nm] w fun e w' => e = .returned (.tuple #[.pointer none, .int .i64 6]) ∧ w = w' := by
  obtain ⟨h0, h1, h2, h3⟩ := h.cells
  have hl := look_none w mb c M hm hfo
  have H := Lib.hid h
  clear h h1 h2 h3 hm hfo
  go_enter Try.func34, Try.ntmps34
  go_wp2_with fail
  refine (down_any _ _ _ _ _ H.out).mono ?_
  rintro e w' ⟨rfl, rfl⟩
  go_wp2_with fail
  go_ret2
  exact ⟨rfl, rfl⟩
set_option maxRecDepth 100000 in
theorem open_log (d mb c f : Nat) (M : List Ent) (st fu : Int) (w : World) (h : DiskRow w d mb st fu false) (hm : w.heap[mb]? = some (.map (ents M) c)) (hfo : fileOf nm M = some f) :
    Calls Try.prog 34 #[.pointer (some ⟨d, 0, none⟩), .string nm] w fun e w' => e = .returned (.tuple #[.pointer (some ⟨f, 0, none⟩), .int .i64 0]) ∧ w = w' := by
  obtain ⟨h0, h1, h2, h3⟩ := h.cells
  have hl := look_log w mb c M hm hfo
  have H := Lib.hid h
  clear h h1 h2 h3 hm hfo
  go_enter Try.func34, Try.ntmps34
  go_wp2_with fail
  refine (down_any _ _ _ _ _ H.out).mono ?_
  rintro e w' ⟨rfl, rfl⟩
  go_wp2_with fail
  go_ret2
  exact ⟨rfl, rfl⟩
theorem OwnB.none_new (w : World) (base : Nat) (hb : base ≤ w.heap.size) : OwnB (w.alloc (.cells #[] 5)) base (.slice (some ⟨w.heap.size, 0, none⟩) 0 0) [] := by
  refine ⟨World.ownsRow_made w #[] 0 hb (by unfold maxLen; omega) (by simp), fun g c t f hg hc u hu => ?_⟩
  simp only [Value.ownBlock, Option.some.injEq] at hg
  subst hg
  rw [heap_alloc_new] at hc
  cases hc
  simp at hu
set_option maxRecDepth 100000 in
theorem CloneB_any (ao : Option Addr) (n cap : Nat) (l : List UInt8) (w : World) (hs : IsBytes w ao n cap l) (hn : n ≤ 4294967296) :
    Calls Try.prog 28 #[.slice ao n cap] w fun e w' => ∃ v, e = .returned v ∧ OwnB w' w.heap.size v l ∧ Below w.heap.size w w' := by
  cases ao with
  | none =>
    obtain ⟨rfl, rfl⟩ := hs.2.2.2.2 rfl
    obtain rfl : l = [] := List.eq_nil_of_length_eq_zero hs.1
    have hql := fun w' => Lib.run_eql_slice_nil (P := Try.prog) w' 30 5 none 0 0 0 0 Try.underlying30
    clear hs hn
    go_enter Try.func28, Try.ntmps28
    go_wp2
    go_ret
    exact ⟨_, rfl, OwnB.nil _ _, Below.refl _ _⟩
  | some ad =>
    have HS := Lib.hid hs
    have hql := fun w' => Lib.run_eql_slice_nil (P := Try.prog) w' 30 5 (some ad) n cap 0 0 Try.underlying30
    have HL : Hid (l.length = n) := Lib.hid hs.1
    clear hs
    go_enter Try.func28, Try.ntmps28
    go_wp2_with (at_builtin; refine wpList_append_bytes rfl _ _ rfl w.heap.size (.slice (some ⟨w.heap.size, 0, none⟩) 0 0) [] rfl (OwnB.none_new w _ (Nat.le_refl _)) (some ad) n cap l rfl (HS.out.later ((Below.refl _ _).alloc (Nat.le_refl _) _)) (by simp; omega) (by simp) ?_; intro v1 w1 hown1 hg1)
    go_ret
    exact ⟨_, rfl, hown1, ((Below.refl _ _).alloc (Nat.le_refl _) _).grown hg1 (by simp) (fun k hk => ((OwnB.none_new w _ (Nat.le_refl _)).1.lt k hk).1)⟩
end Go.Proofs.Ytgbpgmbnihfkkaa
