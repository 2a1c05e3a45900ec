/- disk: New, none, down; atomic.Int64.Add -/
import Derived.Test.YtjkkfjmloleedaaGreatKit
import Derived.Carry
import Derived.Laws.LoneSync
import Derived.WalkSpells
namespace Go.Proofs.YtjkkfjmloleedaaGreat
open Go.RowKit
/-- a disk's own cells: its files' map, how many steps, its fuse, whether it is out. -/
def DiskRow (w : World) (d mb : Nat) (st fu : Int) (out : Bool) : Prop := w.heap[d]? = some (.cells #[.map (some mb), .int .i64 st, .int .i64 fu, .bool out] 50 (0, 0))
theorem DiskRow.cells {w : World} {d mb : Nat} {st fu : Int} {out : Bool} (h : DiskRow w d mb st fu out) :
    w.cell? ⟨d, 0, none⟩ = some (.map (some mb)) ∧ w.cell? ⟨d, 1, none⟩ = some (.int .i64 st) ∧ w.cell? ⟨d, 2, none⟩ = some (.int .i64 fu) ∧ w.cell? ⟨d, 3, none⟩ = some (.bool out) :=
  ⟨cell_of_row _ _ _ _ _ _ h, cell_of_row _ _ _ _ _ _ h, cell_of_row _ _ _ _ _ _ h, cell_of_row _ _ _ _ _ _ h⟩
theorem New_any (w : World) : Calls Tryz.prog 5 #[] w fun e w' => ∃ d mb, e = .returned (.pointer (some ⟨d, 0, none⟩)) ∧ w.heap.size ≤ mb ∧ mb < d ∧ DiskRow w' d mb 0 (-1) false ∧ w'.heap[mb]? = some (.map #[] 0) ∧ Below w.heap.size w w' := by
  have hmm := @run_makeMap Tryz.prog
  go_enter Tryz.func5, Tryz.ntmps5
  go_wp2
  go_ret
  refine ⟨w.heap.size + 1, w.heap.size, rfl, Nat.le_refl _, Nat.lt_succ_self _, ?_, ?_, ((Below.refl _ _).alloc (Nat.le_refl _) _).alloc (by simp) _⟩
  · unfold DiskRow
    have h := heap_alloc_new (w.alloc (Obj.map #[] 0)) (Obj.cells #[Value.map (some w.heap.size), Value.int IntKind.i64 0, Value.int IntKind.i64 (-1), Value.bool false] 50)
    rwa [show (w.alloc (Obj.map #[] 0)).heap.size = w.heap.size + 1 by simp] at h
  · rw [Below.heap_alloc _ _ _ (by simp)]
    exact heap_alloc_new _ _
theorem AddInt_any (b off : Nat) (n : Int) (w : World) (h : w.cell? ⟨b, off, none⟩ = some (.int .i64 n)) (hf : w.frozen? ⟨b, off, none⟩ = false) :
    Calls Tryz.prog 85 #[.pointer (some ⟨b, off, none⟩), .int .i64 1] w fun e w' => (∃ v, e = .returned v) ∧ w' = w.setCell ⟨b, off, none⟩ (.int .i64 (wrap64 (n + 1))) := by
  have hadd := run_call_add (P := Tryz.prog) Tryz.func93 (by kernel_rfl) (by kernel_rfl) (by kernel_rfl) .i64 (by kernel_rfl) (y := 1) (s := wrap64 (n + 1)) h hf (by simp [go_sem]; exact IntWalk.i64_left _)
  go_enter Tryz.func85, Tryz.ntmps85
  go_wp2
  go_ret
  exact ⟨⟨_, rfl⟩, rfl⟩
set_option maxRecDepth 100000 in
theorem none_any (d mb : Nat) (st fu : Int) (out : Bool) (w : World) (h : DiskRow w d mb st fu out) :
    Calls Tryz.prog 50 #[.pointer (some ⟨d, 0, none⟩)] w fun e w' => e = .returned (.bool false) ∧ w = w' := by
  obtain ⟨h0, h1, h2, h3⟩ := h.cells
  clear h h1 h2 h3
  have hem := fun w' => run_eql_map_nil (P := Tryz.prog) w' 43 9 82 (some mb) Tryz.underlying43
  go_enter Tryz.func50, Tryz.ntmps50
  go_wp2
  go_ret
  exact ⟨rfl, rfl⟩
theorem none_nil (w : World) : Calls Tryz.prog 50 #[.pointer none] w fun e w' => e = .returned (.bool true) ∧ w = w' := by
  go_enter Tryz.func50, Tryz.ntmps50
  go_wp2
  go_ret
  exact ⟨rfl, rfl⟩
theorem down_any (d mb : Nat) (st fu : Int) (w : World) (h : DiskRow w d mb st fu false) :
    Calls Tryz.prog 56 #[.pointer (some ⟨d, 0, none⟩)] w fun e w' => e = .returned (.int .i64 0) ∧ w = w' := by
  obtain ⟨h0, h1, h2, h3⟩ := h.cells
  have H := Lib.hid h
  clear h h0 h1 h2
  go_enter Tryz.func56, Tryz.ntmps56
  go_wp2_with fail
  refine (none_any _ _ _ _ _ _ H.out).mono ?_
  rintro e w' ⟨rfl, rfl⟩
  go_wp2_with fail
  go_ret
  exact ⟨rfl, rfl⟩
theorem down_nil (w : World) : Calls Tryz.prog 56 #[.pointer none] w fun e w' => e = .returned (.int .i64 1) ∧ w = w' := by
  go_enter Tryz.func56, Tryz.ntmps56
  go_wp2_with fail
  refine (none_nil _).mono ?_
  rintro e w' ⟨rfl, rfl⟩
  go_wp2_with fail
  go_ret
  exact ⟨rfl, rfl⟩
/-- may bytes be a file's name? -/
def nameP (s : List UInt8) : Bool := s.all (fun b => decide (33 ≤ b.toNat) && decide (b.toNat ≤ 126)) && decide (1 ≤ s.length) && decide (s.length ≤ 64)
end Go.Proofs.YtjkkfjmloleedaaGreat

/- disk: named -/
namespace Go.Proofs.YtjkkfjmloleedaaGreat
open Go.RowKit
theorem bytes_same (nm : ByteArray) : (nm == nm) = true := by
  show ByteArray.beq nm nm = true
  unfold ByteArray.beq
  simp
theorem bytes_eq (nm x : ByteArray) (h : (nm == x) = true) : nm = x := by
  change ByteArray.beq nm x = true at h
  unfold ByteArray.beq at h
  simp at h
  cases nm; cases x; simp_all
theorem bytes_beq (nm x : ByteArray) : (nm == x) = decide (nm = x) := by
  cases h : (nm == x) with
  | true => rw [bytes_eq _ _ h]; simp
  | false =>
    have : nm ≠ x := by
      rintro rfl
      rw [bytes_same] at h
      cases h
    simp [this]
theorem name_bad {nm : ByteArray} {k : Nat} (hk : k < nm.size) (h : (nm[k]'hk).toNat < 33 ∨ 126 < (nm[k]'hk).toNat) : nameP nm.data.toList = false := by
  cases hn : nameP nm.data.toList with
  | false => rfl
  | true =>
    unfold nameP at hn
    simp only [Bool.and_eq_true, List.all_eq_true, decide_eq_true_eq] at hn
    have := hn.1.1 (nm[k]'hk) (by
      show nm.data[k]'hk ∈ _
      exact Array.mem_toList_iff.2 (Array.getElem_mem hk))
    omega
theorem name_fit {nm : ByteArray} (h : ∀ j (hj : j < nm.size), 33 ≤ (nm[j]'hj).toNat ∧ (nm[j]'hj).toNat ≤ 126) : nameP nm.data.toList = (decide (1 ≤ nm.size) && decide (nm.size ≤ 64)) := by
  have : (nm.data.toList.all fun b => decide (33 ≤ b.toNat) && decide (b.toNat ≤ 126)) = true := by
    rw [List.all_eq_true]
    intro b hb
    obtain ⟨j, hj, rfl⟩ := List.getElem_of_mem hb
    have hj' : j < nm.size := by simpa using hj
    have := h j hj'
    simp only [Bool.and_eq_true, decide_eq_true_eq]
    exact this
  unfold nameP
  rw [this]
  rfl
set_option maxRecDepth 100000 in
theorem named_any (nm : ByteArray) (w : World) (hnm : nm.size ≤ 1099511627776) : Calls Tryz.prog 57 #[.string nm] w fun e w' => e = .returned (.bool (nameP nm.data.toList)) ∧ w = w' := by
  go_enter Tryz.func57, Tryz.ntmps57
  go_wp2
  go_loopw [6] (fun i wr => ∃ k : Nat, k ≤ nm.size ∧ i = .int .i64 k ∧ Hid (∀ j (hj : j < nm.size), j < k → 33 ≤ (nm[j]'hj).toNat ∧ (nm[j]'hj).toNat ≤ 126) ∧ w = wr) (fun i _ => nm.size - (intOf i).toNat)
  case atStart => exact ⟨0, by omega, rfl, Lib.hid (fun j hj h => absurd h (by omega)), rfl⟩
  case round =>
    obtain ⟨k, hk, rfl, hall, rfl⟩ := hrel
    by_cases hlt : k < nm.size
    · have hk0 : (0 : Int) ≤ (k : Int) := by omega
      have hk1 : (k : Int) < (nm.size : Int) := by omega
      by_cases hr1 : ((nm[k].toNat : Nat) : Int) < 33
      · have hbad := Lib.hid (name_bad hlt (.inl (by omega)))
        go_wp2
        go_ret
        exact ⟨by rw [hbad.out]; rfl, rfl⟩
      by_cases hr2 : (126 : Int) < ((nm[k].toNat : Nat) : Int)
      · have hbad := Lib.hid (name_bad hlt (.inr (by omega)))
        go_wp2
        go_ret
        exact ⟨by rw [hbad.out]; rfl, rfl⟩
      go_wp2
      go_roundw
      case rel =>
        refine ⟨k + 1, by omega, by go_num, Lib.hid (fun j hj h => ?_), trivial⟩
        by_cases hjk : j < k
        · exact hall.out j hj hjk
        · obtain rfl : j = k := by omega
          omega
      case measure => simp [intOf]; omega
    · obtain rfl : k = nm.size := by omega
      have HF := Lib.hid (name_fit (fun j hj => hall.out j hj hj))
      by_cases h1 : (1 : Int) ≤ (nm.size : Int)
      · by_cases h2 : (nm.size : Int) ≤ 64
        · go_wp2
          go_ret
          exact ⟨by rw [HF.out]; simp; omega, rfl⟩
        · go_wp2
          go_ret
          exact ⟨by rw [HF.out]; simp; omega, rfl⟩
      · go_wp2
        go_ret
        exact ⟨by rw [HF.out]; simp; omega, rfl⟩
theorem named_log {nm : ByteArray} (w : World) (hn : nameP nm.data.toList = true) : Calls Tryz.prog 57 #[.string nm] w fun e w' => e = .returned (.bool true) ∧ w = w' := by
  have h : nm.size ≤ 64 := by
    unfold nameP at hn
    simp only [Bool.and_eq_true, decide_eq_true_eq] at hn
    exact hn.2
  refine (named_any nm w (by omega)).mono ?_
  rintro e w' ⟨rfl, rfl⟩
  exact ⟨by rw [hn], rfl⟩
end Go.Proofs.YtjkkfjmloleedaaGreat

/- disk: the map of files -/
namespace Go.Proofs.YtjkkfjmloleedaaGreat
open Go.RowKit
/-- the world with another object in block mb. -/
def setObjAt (w : World) (mb : Nat) (o : Obj) : World := { w with heap := w.heap.setIfInBounds mb o }
/-- an entry: a file's name, its block, when it was laid. -/
abbrev Ent := ByteArray × Nat × Nat
def ent (x : Ent) : MapEntry := { key := .string x.1, val := .pointer (some ⟨x.2.1, 0, none⟩), born := x.2.2 }
def ents (M : List Ent) : Array MapEntry := (M.map ent).toArray
/-- where a name stands, and which file it has. -/
def fnd (nm : ByteArray) : List Ent → Nat → Option (Nat × Nat)
  | [], _ => none
  | x :: M, i => if nm == x.1 then some (i, x.2.1) else fnd nm M (i + 1)
theorem findNow_ents (nm : ByteArray) : ∀ (M : List Ent) (i : Nat), Instr.findNow .string (.string nm) (M.map ent) i = some ((fnd nm M i).map fun p => (p.1, .pointer (some ⟨p.2, 0, none⟩)))
  | [], _ => rfl
  | x :: M, i => by
    have ih := findNow_ents nm M (i + 1)
    simp only [List.map_cons, Instr.findNow, fnd]
    have e : Instr.sameNow .string (.string nm) (ent x).key = some (nm == x.1) := rfl
    rw [e]
    cases h : (nm == x.1) with
    | true => rfl
    | false => simpa using ih
theorem check_any (nm : ByteArray) (em : Bool) (w : World) : (Instr.checkKey em 10000 9 (.string nm)).run Tryz.prog w = .ok () w := by
  rw [show (10000 : Nat) = 9999 + 1 from rfl, Instr.checkKey]
  simp [run_underlying Tryz.underlying9]
theorem find_ents (nm : ByteArray) (M : List Ent) (w : World) : (Instr.findKey 9 (.string nm) (M.map ent)).run Tryz.prog w = .ok ((fnd nm M 0).map fun p => (p.1, .pointer (some ⟨p.2, 0, none⟩))) w := by
  simp [Instr.findKey, findNow_ents, run_underlying Tryz.underlying9]
/-- the file that a name has. -/
def fileOf (nm : ByteArray) (M : List Ent) : Option Nat := (fnd nm M 0).map (·.2)
theorem look_ents (nm : ByteArray) (M : List Ent) (w : World) (mb c : Nat) (h : w.heap[mb]? = some (.map (ents M) c)) : (Instr.lookup 43 (.map (some mb)) (.string nm) false).run Tryz.prog w = .ok (.pointer ((fileOf nm M).map fun f => ⟨f, 0, none⟩)) w := by
  unfold Instr.lookup fileOf
  have e : (ents M).toList = M.map ent := by simp [ents]
  cases hf : fnd nm M 0 with
  | none =>
    have hr := find_ents nm M w
    rw [hf] at hr
    simp [run_underlying Tryz.underlying43, MapKept.run_getObj_map h, check_any, e, hr, Result.andThen]
  | some p =>
    have hr := find_ents nm M w
    rw [hf] at hr
    simp [run_underlying Tryz.underlying43, MapKept.run_getObj_map h, check_any, e, hr, Result.andThen]
theorem len_ents (w : World) (mb c : Nat) (M : List Ent) (ty : TypeId) (h : w.heap[mb]? = some (.map (ents M) c)) : (Builtin.len_ #[43] ty #[.map (some mb)]).run Tryz.prog w = .ok (.int .i64 (M.length : Nat)) w := by
  simp [Builtin.len_, run_underlying Tryz.underlying43, MapKept.run_getObj_map h, goInt, Result.andThen, ents]
theorem fnd_spec (nm : ByteArray) : ∀ (M : List Ent) (i k f : Nat), fnd nm M i = some (k, f) → ∃ j b, k = i + j ∧ M[j]? = some (nm, f, b)
  | [], _, _, _, h => by cases h
  | x :: M, i, k, f, h => by
    unfold fnd at h
    cases hx : (nm == x.1) with
    | true =>
      rw [hx, if_pos rfl] at h
      injection h with h
      injection h with h1 h2
      have : nm = x.1 := bytes_eq _ _ hx
      exact ⟨0, x.2.2, h1.symm, by rw [this, ← h2]; rfl⟩
    | false =>
      rw [hx, if_neg (by simp)] at h
      obtain ⟨j, b, e, hj⟩ := fnd_spec nm M (i + 1) k f h
      exact ⟨j + 1, b, by omega, by simpa using hj⟩
theorem stays_any (nm : ByteArray) (w : World) : (Instr.keyThatStays (.string nm) (.string nm)).run Tryz.prog w = .ok (.string nm) w := by
  have e : Instr.sameBits 10000 (.string nm) (.string nm) = true := by
    rw [show (10000 : Nat) = 9999 + 1 from rfl, Instr.sameBits]
    simp [bytes_same]
  unfold Instr.keyThatStays
  rw [e]
  rfl
/-- a file under a name, in the place of the one that had it. -/
def putE (nm : ByteArray) (f c : Nat) (M : List Ent) : List Ent := match fnd nm M 0 with
  | some (k, _) => M.modify k fun x => (x.1, f, x.2.2)
  | none => M ++ [(nm, f, c)]
def clockE (nm : ByteArray) (c : Nat) (M : List Ent) : Nat := match fnd nm M 0 with
  | some _ => c
  | none => c + 1
/-- the files without a name's. -/
def delE (nm : ByteArray) (M : List Ent) : List Ent := match fnd nm M 0 with
  | some (k, _) => M.eraseIdx k
  | none => M
theorem put_ents (nm : ByteArray) (f c mb : Nat) (M : List Ent) (w : World) (h : w.heap[mb]? = some (.map (ents M) c)) :
    (Instr.mapUpdate 43 (.map (some mb)) (.string nm) (.pointer (some ⟨f, 0, none⟩))).run Tryz.prog w = .ok () (setObjAt w mb (.map (ents (putE nm f c M)) (clockE nm c M))) := by
  unfold Instr.mapUpdate putE clockE
  have e : (ents M).toList = M.map ent := by simp [ents]
  have hr := find_ents nm M w
  cases hf : fnd nm M 0 with
  | none =>
    rw [hf] at hr
    simp [run_underlying Tryz.underlying43, MapKept.run_getObj_map h, check_any, e, hr, Result.andThen, MapKept.run_setObj_map _ h]
    rw [show (ents M).push { key := .string nm, val := .pointer (some ⟨f, 0, none⟩), born := c } = ents (M ++ [(nm, f, c)]) by simp [ents, ent]]
    rfl
  | some p =>
    obtain ⟨k, g⟩ := p
    obtain ⟨j, b, hk, hj⟩ := fnd_spec nm M 0 k g hf
    rw [Nat.zero_add] at hk
    subst hk
    rw [hf] at hr
    have hkey : (((ents M)[k]?).map (·.key)).getD (.string nm) = .string nm := by simp [ents, hj, ent]
    have hmod : ((ents M).modify k fun e => { e with key := .string nm, val := .pointer (some ⟨f, 0, none⟩) }) = ents (M.modify k fun x => (x.1, f, x.2.2)) := by
      apply Array.ext_getElem?
      intro i
      simp only [ents, Array.getElem?_modify, List.getElem?_toArray, List.getElem?_map, List.getElem?_modify]
      by_cases hik : k = i
      · subst hik
        simp [hj, ent]
      · simp [hik]
    simp [run_underlying Tryz.underlying43, MapKept.run_getObj_map h, check_any, e, hr, Result.andThen, hkey, stays_any, MapKept.run_setObj_map _ h]
    rw [hmod]
    rfl
theorem erase_map {α β : Type} (g : α → β) : ∀ (l : List α) (k : Nat), (l.map g).eraseIdx k = (l.eraseIdx k).map g
  | [], _ => rfl
  | _ :: _, 0 => rfl
  | x :: l, k + 1 => by simp [erase_map g l k]
theorem del_ents (nm : ByteArray) (c mb : Nat) (M : List Ent) (w : World) (ty : TypeId) (h : w.heap[mb]? = some (.map (ents M) c)) :
    (Builtin.delete_ #[43, 9] ty #[.map (some mb), .string nm]).run Tryz.prog w = .ok (.tuple #[]) (setObjAt w mb (.map (ents (delE nm M)) c)) := by
  unfold Builtin.delete_ delE
  have e : (ents M).toList = M.map ent := by simp [ents]
  have hr := find_ents nm M w
  cases hf : fnd nm M 0 with
  | none =>
    rw [hf] at hr
    simp [run_underlying Tryz.underlying43, MapKept.run_getObj_map h, check_any, e, hr, Result.andThen, MapKept.run_setObj_map _ h]
    rfl
  | some p =>
    obtain ⟨k, g⟩ := p
    rw [hf] at hr
    have hmod : (ents M).eraseIdxIfInBounds k = ents (M.eraseIdx k) := by
      obtain ⟨j, b, hk, hj⟩ := fnd_spec nm M 0 k g hf
      rw [Nat.zero_add] at hk
      subst hk
      have hlt : k < (ents M).size := by
        have := List.getElem?_eq_some_iff.1 hj
        simpa [ents] using this.1
      unfold Array.eraseIdxIfInBounds
      rw [dif_pos hlt]
      apply Array.toList_inj.1
      rw [Array.toList_eraseIdx, e]
      simp [ents, erase_map]
    simp [run_underlying Tryz.underlying43, MapKept.run_getObj_map h, check_any, e, hr, Result.andThen, MapKept.run_setObj_map _ h]
    rw [hmod]
    rfl
theorem look_none {nm : ByteArray} (w : World) (mb c : Nat) (M : List Ent) (h : w.heap[mb]? = some (.map (ents M) c)) (hf : fileOf nm M = none) : (Instr.lookup 43 (.map (some mb)) (.string nm) false).run Tryz.prog w = .ok (.pointer none) w := by
  rw [look_ents nm M w mb c h, hf]
  rfl
theorem look_log {nm : ByteArray} {f : Nat} (w : World) (mb c : Nat) (M : List Ent) (h : w.heap[mb]? = some (.map (ents M) c)) (hf : fileOf nm M = some f) : (Instr.lookup 43 (.map (some mb)) (.string nm) false).run Tryz.prog w = .ok (.pointer (some ⟨f, 0, none⟩)) w := by
  rw [look_ents nm M w mb c h, hf]
  rfl
end Go.Proofs.YtjkkfjmloleedaaGreat

/- disk: open of "log"; Clone of bytes -/
namespace Go.Proofs.YtjkkfjmloleedaaGreat
open Go.RowKit
variable {nm : ByteArray}
set_option maxRecDepth 100000 in
theorem open_nil (nv : Value) (w : World) : Calls Tryz.prog 66 #[.pointer none, nv] w fun e w' => e = .returned (.tuple #[.pointer none, .int .i64 1]) ∧ w = w' := by
  go_enter Tryz.func66, Tryz.ntmps66
  go_wp2_with fail
  refine (down_nil _).mono ?_
  rintro e w' ⟨rfl, rfl⟩
  go_wp2_with fail
  go_ret2
  exact ⟨rfl, rfl⟩
set_option maxRecDepth 100000 in
theorem open_none (d mb c : Nat) (M : List Ent) (st fu : Int) (w : World) (h : DiskRow w d mb st fu false) (hm : w.heap[mb]? = some (.map (ents M) c)) (hfo : fileOf nm M = none) :
    Calls Tryz.prog 66 #[.pointer (some ⟨d, 0, none⟩), .string nm] w fun e w' => e = .returned (.tuple #[.pointer none, .int .i64 6]) ∧ w = w' := by
  obtain ⟨h0, h1, h2, h3⟩ := h.cells
  have hl := look_none w mb c M hm hfo
  have H := Lib.hid h
  clear h h1 h2 h3 hm hfo
  go_enter Tryz.func66, Tryz.ntmps66
  go_wp2_with fail
  refine (down_any _ _ _ _ _ H.out).mono ?_
  rintro e w' ⟨rfl, rfl⟩
  go_wp2_with fail
  go_ret2
  exact ⟨rfl, rfl⟩
set_option maxRecDepth 100000 in
theorem open_log (d mb c f : Nat) (M : List Ent) (st fu : Int) (w : World) (h : DiskRow w d mb st fu false) (hm : w.heap[mb]? = some (.map (ents M) c)) (hfo : fileOf nm M = some f) :
    Calls Tryz.prog 66 #[.pointer (some ⟨d, 0, none⟩), .string nm] w fun e w' => e = .returned (.tuple #[.pointer (some ⟨f, 0, none⟩), .int .i64 0]) ∧ w = w' := by
  obtain ⟨h0, h1, h2, h3⟩ := h.cells
  have hl := look_log w mb c M hm hfo
  have H := Lib.hid h
  clear h h1 h2 h3 hm hfo
  go_enter Tryz.func66, Tryz.ntmps66
  go_wp2_with fail
  refine (down_any _ _ _ _ _ H.out).mono ?_
  rintro e w' ⟨rfl, rfl⟩
  go_wp2_with fail
  go_ret2
  exact ⟨rfl, rfl⟩
theorem OwnB.none_new (w : World) (base : Nat) (hb : base ≤ w.heap.size) : OwnB (w.alloc (.cells #[] 5)) base (.slice (some ⟨w.heap.size, 0, none⟩) 0 0) [] := by
  refine ⟨World.ownsRow_made w #[] 0 hb (by unfold maxLen; omega) (by simp), fun g c t f hg hc u hu => ?_⟩
  simp only [Value.ownBlock, Option.some.injEq] at hg
  subst hg
  rw [heap_alloc_new] at hc
  cases hc
  simp at hu
set_option maxRecDepth 100000 in
theorem CloneB_any (ao : Option Addr) (n cap : Nat) (l : List UInt8) (w : World) (hs : IsBytes w ao n cap l) (hn : n ≤ 4294967296) :
    Calls Tryz.prog 61 #[.slice ao n cap] w fun e w' => ∃ v, e = .returned v ∧ OwnB w' w.heap.size v l ∧ Below w.heap.size w w' := by
  cases ao with
  | none =>
    obtain ⟨rfl, rfl⟩ := hs.2.2.2.2 rfl
    obtain rfl : l = [] := List.eq_nil_of_length_eq_zero hs.1
    have hql := fun w' => Lib.run_eql_slice_nil (P := Tryz.prog) w' 36 5 none 0 0 0 0 Tryz.underlying36
    clear hs hn
    go_enter Tryz.func61, Tryz.ntmps61
    go_wp2
    go_ret
    exact ⟨_, rfl, OwnB.nil _ _, Below.refl _ _⟩
  | some ad =>
    have HS := Lib.hid hs
    have hql := fun w' => Lib.run_eql_slice_nil (P := Tryz.prog) w' 36 5 (some ad) n cap 0 0 Tryz.underlying36
    have HL : Hid (l.length = n) := Lib.hid hs.1
    clear hs
    go_enter Tryz.func61, Tryz.ntmps61
    go_wp2_with (at_builtin; refine wpList_append_bytes rfl _ _ rfl w.heap.size (.slice (some ⟨w.heap.size, 0, none⟩) 0 0) [] rfl (OwnB.none_new w _ (Nat.le_refl _)) (some ad) n cap l rfl (HS.out.later ((Below.refl _ _).alloc (Nat.le_refl _) _)) (by simp; omega) (by simp) ?_; intro v1 w1 hown1 hg1)
    go_ret
    exact ⟨_, rfl, hown1, ((Below.refl _ _).alloc (Nat.le_refl _) _).grown hg1 (by simp) (fun k hk => ((OwnB.none_new w _ (Nat.le_refl _)).1.lt k hk).1)⟩
end Go.Proofs.YtjkkfjmloleedaaGreat

/- disk: what is under way of a file; units, loose -/
namespace Go.Proofs.YtjkkfjmloleedaaGreat
open Go.RowKit
set_option linter.unusedSectionVars false
/-- something under way: more bytes, or a cut. -/
inductive Deed where
  | more (b : List UInt8)
  | cut (n : Nat)
def Deed.units : Deed → Nat
  | .more b => b.length
  | .cut _ => 1
/-- a cell holds a deed. -/
def IsDeed (w : World) (v : Value) : Deed → Prop
  | .more b => ∃ a n c, v = .iface 95 (.slice a n c) ∧ IsBytes w a n c b
  | .cut n => v = .iface 100 (.int .i64 (n : Int))
theorem units_more (ao : Option Addr) (n cap : Nat) (w : World) : Calls Tryz.prog 133 #[.slice ao n cap] w fun e w' => e = .returned (.int .i64 (n : Int)) ∧ w = w' := by
  go_enter Tryz.func133, Tryz.ntmps133
  go_wp2
  go_ret
  exact ⟨rfl, rfl⟩
theorem units_cut (n : Int) (w : World) : Calls Tryz.prog 134 #[.int .i64 n] w fun e w' => e = .returned (.int .i64 1) ∧ w = w' := by
  go_enter Tryz.func134, Tryz.ntmps134
  go_wp2
  go_ret
  exact ⟨rfl, rfl⟩
/-- a file's two cells. -/
def FileRow (w : World) (f : Nat) (sv lv : Value) : Prop := w.heap[f]? = some (.cells #[sv, lv] 92 (0, 0))
/-- a slice of deeds. -/
def IsDeeds (w : World) (ao : Option Addr) (n cap : Nat) (D : List Deed) : Prop :=
  D.length = n ∧ n ≤ cap ∧ cap ≤ maxLen ∧ (ao = none → n = 0 ∧ cap = 0) ∧ ∀ i, i < n → ∃ b off v, ao = some ⟨b, off, none⟩ ∧ w.cell? ⟨b, off + i, none⟩ = some v ∧ IsDeed w v (D.getD i (.cut 0))
theorem take_units {D : List Deed} {k n : Nat} (hl : D.length = n) (hk : k < n) : ((D.take (k + 1)).map Deed.units).sum = ((D.take k).map Deed.units).sum + (D.getD k (.cut 0)).units := by
  rw [List.take_succ_eq_append_getElem (by omega), List.map_append, List.sum_append, List.getD_eq_getElem?_getD, List.getElem?_eq_getElem (by omega)]
  simp
theorem take_units_le (D : List Deed) (k : Nat) : ((D.take k).map Deed.units).sum ≤ (D.map Deed.units).sum := by
  conv => rhs; rw [← List.take_append_drop k D, List.map_append, List.sum_append]
  omega
theorem meth_more (v : Value) (w : World) : (method 251 95 v "apportion/disk.units").run Tryz.prog w = .ok (133, v) w := by kernel_rfl
theorem meth_cut (v : Value) (w : World) : (method 251 100 v "apportion/disk.units").run Tryz.prog w = .ok (134, v) w := by kernel_rfl
set_option maxRecDepth 100000 in
theorem loose_any (f : Nat) (sv : Value) (ao : Option Addr) (n cap : Nat) (D : List Deed) (w : World) (h : FileRow w f sv (.slice ao n cap)) (hd : IsDeeds w ao n cap D) (hu : (D.map Deed.units).sum ≤ 1099511627776) :
    Calls Tryz.prog 51 #[.pointer (some ⟨f, 0, none⟩)] w fun e w' => e = .returned (.int .i64 ((D.map Deed.units).sum : Nat)) ∧ w = w' := by
  have f1 : w.cell? ⟨f, 1, none⟩ = some (.slice ao n cap) := cell_of_row _ _ _ _ _ _ h
  have hn := hd.2.1
  have hcm := hd.2.2.1
  have HD := Lib.hid hd
  unfold maxLen at hcm
  clear h hd
  go_enter Tryz.func51, Tryz.ntmps51
  go_wp2
  go_loopw [3, 11] (fun s i wr => ∃ k : Nat, k ≤ n ∧ i = .int .i64 k ∧ s = .int .i64 (((D.take k).map Deed.units).sum : Nat) ∧ w = wr) (fun _ i _ => n - (intOf i).toNat)
  case atStart => exact ⟨0, by omega, rfl, rfl, rfl⟩
  case round =>
    obtain ⟨k, hk, rfl, rfl, rfl⟩ := hrel
    by_cases hlt : k < n
    · have hi0 : (0 : Int) ≤ (k : Int) := by omega
      have hi5 : (k : Int) < (n : Int) := by omega
      obtain ⟨b, off, v, rfl, hc, hv⟩ := HD.out.2.2.2.2 k hlt
      obtain ⟨x, hx⟩ : ∃ x, x = D.getD k (.cut 0) := ⟨_, rfl⟩
      rw [← hx] at hv
      have hstep := take_units HD.out.1 hlt
      rw [← hx] at hstep
      have hle := take_units_le D (k + 1)
      obtain ⟨t, ht⟩ : ∃ t, t = ((D.take k).map Deed.units).sum := ⟨_, rfl⟩
      rw [← ht] at hstep ⊢
      have HST := Lib.hid hstep
      have hle2 : (D.take (k + 1)).map Deed.units |>.sum |> (· ≤ 1099511627776) := Nat.le_trans hle hu
      have HLE := Lib.hid hle2
      clear hle hle2 hx
      cases x with
      | more bs =>
        obtain ⟨a, m, c, rfl, hbs⟩ := hv
        have hm := fun w' => meth_more (.slice a m c) w'
        have hbl : bs.length = m := hbs.1
        have hw : IntKind.i64.wrap ((t : Int) + (m : Int)) = (t : Int) + (m : Int) := IntWalk.i64_in _ (by
          have h1 := HST.out; have h2 := HLE.out
          simp only [Deed.units] at h1
          omega)
        have HB := Lib.hid hbl
        clear hbs hstep hbl ht
        go_wp2_with fail
        refine (units_more a m c _).mono ?_
        rintro e w' ⟨rfl, rfl⟩
        go_wp2_with fail
        go_roundw
        case rel => exact ⟨k + 1, by omega, by go_num, by have h1 := HST.out; simp only [Deed.units] at h1; rw [h1, HB.out]; push_cast; rfl, trivial⟩
        case measure => simp [intOf]; omega
      | cut z =>
        obtain rfl := hv
        have hm := fun w' => meth_cut (.int .i64 (z : Int)) w'
        have hw : IntKind.i64.wrap ((t : Int) + 1) = (t : Int) + 1 := IntWalk.i64_in _ (by
          have h1 := HST.out; have h2 := HLE.out
          simp only [Deed.units] at h1
          omega)
        clear hstep ht
        go_wp2_with fail
        refine (units_cut _ _).mono ?_
        rintro e w' ⟨rfl, rfl⟩
        go_wp2_with fail
        go_roundw
        case rel => exact ⟨k + 1, by omega, by go_num, by have h1 := HST.out; simp only [Deed.units] at h1; rw [h1]; push_cast; rfl, trivial⟩
        case measure => simp [intOf]; omega
    · obtain rfl : k = n := by omega
      go_wp2
      go_ret
      refine ⟨?_, rfl⟩
      have := HD.out.1
      rw [show D.take k = D from List.take_of_length_le (by omega)]
      rfl
end Go.Proofs.YtjkkfjmloleedaaGreat

/- disk: append of a part of what is under way, cuts of own rows of bytes -/
namespace Go.Proofs.YtjkkfjmloleedaaGreat
open Go.RowKit
set_option linter.unusedSectionVars false
/-- 'append(own, more...)'. -/
theorem run_append_more {w : World} (ty base : Nat) (v : Value) (l : List UInt8) (hown : OwnB w base v l)
    (ao : Option Addr) (m c : Nat) (l2 : List UInt8) (hsrc : IsBytes w ao m c l2) (hnm : l.length + m ≤ 140737488355328) (hbase : base ≤ w.heap.size) :
    ∃ v' w', (Builtin.append_ #[36, 95] ty #[v, .slice ao m c]).run Tryz.prog w = .ok v' w' ∧ OwnB w' base v' (l ++ l2) ∧ w.grownBy w' v.ownBlock := by
  obtain ⟨v', w', hr, h2, h3, _⟩ := run_append_bytes ty base v l hown ao m c l2 hsrc hnm hbase
  refine ⟨v', w', ?_, h2, h3⟩
  rw [← hr]
  obtain ⟨a, cap, rfl⟩ := ownsRow_shape hown.1
  simp [Builtin.append_, run_underlying Tryz.underlying36, run_underlying Tryz.underlying95]
theorem slice_to_more {w : World} {ao : Option Addr} {n cap : Nat} {l : List UInt8} (h : IsBytes w ao n cap l) (hi : Nat) (hhi : hi ≤ n) :
    (∀ w', (Instr.slice 95 (.slice ao n cap) none (some (.int .i64 (hi : Int))) none).run Tryz.prog w' = .ok (.slice ao hi cap) w') ∧ IsBytes w ao hi cap (l.take hi) := by
  obtain ⟨i0, hi0, hz0, hz1, hz2⟩ := info_parts Tryz.infoByte
  have h2 := h.2.1
  have hle : hi ≤ cap := by omega
  refine ⟨fun w' => ?_, h.cut hi hhi⟩
  have e1 : (Instr.sliceBounds true n cap none (some (.int .i64 (hi : Int))) none).run Tryz.prog w' = .ok (0, hi, cap) w' := by
    simp [Instr.sliceBounds, Instr.sliceBound, asIntOf, hle]
  simp [Instr.slice, run_underlying Tryz.underlying95, e1, sizeOf, typeInfo, hi0, Result.andThen]
  cases ao with
  | none => simp
  | some a => simp [Addr.add]
theorem OwnB.short {w : World} {base : Nat} {ao : Option Addr} {n cap : Nat} {l : List UInt8} (h : OwnB w base (.slice ao n cap) l) (k : Nat) (hk : k ≤ l.length) : OwnB w base (.slice ao k cap) (l.take k) := by
  refine ⟨⟨by rw [u8s_length, Nat.mul_one], ?_⟩, fun g c t f hg hc => h.2 g c t f (by cases ao with | none => (simp [Value.ownBlock] at hg) | some a => exact hg) hc⟩
  rcases h.1.2 with ⟨h1, h0⟩ | ⟨g, cap', cur, he, hb, hg, hn, hm, hs, ht⟩
  · cases h1
    have : k = 0 := by omega
    subst this
    exact .inl ⟨rfl, by simp⟩
  · simp only [Value.slice.injEq] at he
    obtain ⟨rfl, rfl, rfl⟩ := he
    refine .inr ⟨g, cap, cur, by rw [List.length_take, Nat.min_eq_left hk], hb, hg, by rw [List.length_take]; omega, hm, hs, ?_⟩
    rw [List.length_take, Nat.min_eq_left hk]
    have h2 : cur.toList.take (k * 1) = (u8s l).take k := by rw [← ht, List.take_take, Nat.mul_one, Nat.mul_one, Nat.min_eq_left hk]
    rw [h2]
    simp [u8s, List.map_take]
theorem wpList_append_more {w : World} {ops : Array Oper} {rest : List Oper} {o : Oper} {a : Act} {Q : Exit → Act → World → Prop} (hgd : o.guard = none) (s x : Operand)
    (ho : o.op = .call { callee := .builtin .append, args := #[s, x], argTypes := #[36, 95] })
    (base : Nat) (v : Value) (l : List UInt8) (hs : a.eval s = v) (hown : OwnB w base v l)
    (ao : Option Addr) (m c : Nat) (l2 : List UInt8) (hx : a.eval x = .slice ao m c) (hsrc : IsBytes w ao m c l2) (hnm : l.length + m ≤ 140737488355328) (hbase : base ≤ w.heap.size)
    (h : ∀ v' w', OwnB w' base v' (l ++ l2) → w.grownBy w' v.ownBlock → wpList Tryz.prog ops Q rest (a.put o.dst v') w') : wpList Tryz.prog ops Q (o :: rest) a w := by
  obtain ⟨v', w', hr, h2, h3⟩ := run_append_more o.type base v l hown ao m c l2 hsrc hnm hbase
  refine wpList_plain hgd fun K hK => ?_
  unfold Oper.wp execOp
  simp only [ho, resolve, invoke, builtin, Sem.run_bind, Sem.run_pure, Result.andThen_ok, List.map_toArray, List.map_cons, List.map_nil, hs, hx, hr]
  exact hK _ _ (h v' w' h2 h3)
end Go.Proofs.YtjkkfjmloleedaaGreat
