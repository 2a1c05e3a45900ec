/- layer 16: maps from strings to forms -/
import Derived.Test.YtbgihfjagfbfgaaDoorMWBase
set_option linter.unusedSimpArgs false
set_option linter.unusedVariables false
namespace Go.Proofs.YtbgihfjagfbfgaaDoor
open Go.RowKit Go.Words
/-- the world with another object in block mb. -/
def setObjAt (w : World) (mb : Nat) (o : Obj) : World := { w with heap := w.heap.setIfInBounds mb o }
theorem setObjAt_at {w : World} {mb : Nat} {o p : Obj} (h : w.heap[mb]? = some p) : (setObjAt w mb o).heap[mb]? = some o := by
  have := heap_lt2 h
  unfold setObjAt
  simp [Array.getElem?_setIfInBounds, this]
theorem setObjAt_ne {w : World} {mb k : Nat} {o : Obj} (h : k ≠ mb) : (setObjAt w mb o).heap[k]? = w.heap[k]? := by
  unfold setObjAt
  simp [Array.getElem?_setIfInBounds, Ne.symm h]
theorem setObjAt_size {w : World} {mb : Nat} {o : Obj} : (setObjAt w mb o).heap.size = w.heap.size := by unfold setObjAt; simp
/-- an entry: a word, what it has, when it was laid. -/
abbrev EntW := ByteArray × ByteArray × Nat
abbrev fV (s : ByteArray) : Value := .agg #[.string s]
def entW (x : EntW) : MapEntry := { key := .string x.1, val := fV x.2.1, born := x.2.2 }
def entsW (M : List EntW) : Array MapEntry := (M.map entW).toArray
def fndW (nm : ByteArray) : List EntW → Nat → Option (Nat × ByteArray)
  | [], _ => none
  | x :: M, i => if nm == x.1 then some (i, x.2.1) else fndW nm M (i + 1)
theorem findNow_entsW (nm : ByteArray) : ∀ (M : List EntW) (i : Nat), Instr.findNow .string (.string nm) (M.map entW) i = some ((fndW nm M i).map fun p => (p.1, fV p.2))
  | [], _ => rfl
  | x :: M, i => by
    have ih := findNow_entsW nm M (i + 1)
    simp only [List.map_cons, Instr.findNow, fndW]
    have e : Instr.sameNow .string (.string nm) (entW x).key = some (nm == x.1) := rfl
    rw [e]
    cases h : (nm == x.1) with
    | true => rfl
    | false => simpa using ih
theorem check_any (nm : ByteArray) (em : Bool) (w : World) : (Instr.checkKey em 10000 9 (.string nm)).run Tryd.prog w = .ok () w := by
  rw [show (10000 : Nat) = 9999 + 1 from rfl, Instr.checkKey]
  simp [run_underlying Tryd.underlying9]
theorem find_entsW (nm : ByteArray) (M : List EntW) (w : World) : (Instr.findKey 9 (.string nm) (M.map entW)).run Tryd.prog w = .ok ((fndW nm M 0).map fun p => (p.1, fV p.2)) w := by
  simp [Instr.findKey, findNow_entsW, run_underlying Tryd.underlying9]
def valW (nm : ByteArray) (M : List EntW) : Option ByteArray := (fndW nm M 0).map (·.2)
theorem fndW_shift (nm : ByteArray) : ∀ (M : List EntW) (i : Nat), (fndW nm M i).map (·.2) = valW nm M
  | [], _ => rfl
  | x :: M, i => by
    unfold valW
    simp only [fndW]
    cases h : (nm == x.1) with
    | true => rfl
    | false =>
      have h1 := fndW_shift nm M (i + 1)
      have h2 := fndW_shift nm M (0 + 1)
      simp only [Bool.false_eq_true, if_false]
      rw [h1, h2]
theorem valW_cons (nm : ByteArray) (x : EntW) (M : List EntW) : valW nm (x :: M) = if nm == x.1 then some x.2.1 else valW nm M := by
  unfold valW
  simp only [fndW]
  cases h : (nm == x.1) with
  | true => rfl
  | false =>
    simp only [Bool.false_eq_true, if_false]
    exact fndW_shift nm M (0 + 1)
theorem fndW_spec (nm : ByteArray) : ∀ (M : List EntW) (i k : Nat) (f : ByteArray), fndW nm M i = some (k, f) → ∃ j b, k = i + j ∧ M[j]? = some (nm, f, b)
  | [], _, _, _, h => by cases h
  | x :: M, i, k, f, h => by
    unfold fndW at h
    cases hx : (nm == x.1) with
    | true =>
      rw [hx, if_pos rfl] at h
      injection h with h
      injection h with h1 h2
      have : nm = x.1 := bytes_eq _ _ hx
      exact ⟨0, x.2.2, h1.symm, by rw [this, ← h2]; rfl⟩
    | false =>
      rw [hx, if_neg (by simp)] at h
      obtain ⟨j, b, e, hj⟩ := fndW_spec nm M (i + 1) k f h
      exact ⟨j + 1, b, by omega, by simpa using hj⟩
theorem stays_any (nm : ByteArray) (w : World) : (Instr.keyThatStays (.string nm) (.string nm)).run Tryd.prog w = .ok (.string nm) w := by
  have e : Instr.sameBits 10000 (.string nm) (.string nm) = true := by
    rw [show (10000 : Nat) = 9999 + 1 from rfl, Instr.sameBits]
    simp [bytes_same]
  unfold Instr.keyThatStays
  rw [e]
  rfl
def putW (nm f : ByteArray) (c : Nat) (M : List EntW) : List EntW := match fndW nm M 0 with
  | some (k, _) => M.modify k fun x => (x.1, f, x.2.2)
  | none => M ++ [(nm, f, c)]
def clockW (nm : ByteArray) (c : Nat) (M : List EntW) : Nat := match fndW nm M 0 with
  | some _ => c
  | none => c + 1
theorem look_entsW (nm : ByteArray) (M : List EntW) (w : World) (mb c : Nat) (h : w.heap[mb]? = some (.map (entsW M) c)) : (Instr.lookup 37 (.map (some mb)) (.string nm) true).run Tryd.prog w = .ok (.tuple #[fV ((valW nm M).getD ByteArray.empty), .bool (valW nm M).isSome]) w := by
  unfold Instr.lookup valW
  have e : (entsW M).toList = M.map entW := by simp [entsW]
  have hz : ∀ w, (zeroValue 35).run Tryd.prog w = .ok (fV ByteArray.empty) w := Tryd.zeroValue35
  cases hf : fndW nm M 0 with
  | none =>
    have hr := find_entsW nm M w
    rw [hf] at hr
    simp [run_underlying Tryd.underlying37, MapKept.run_getObj_map h, check_any, e, hr, Result.andThen, hz]
  | some p =>
    have hr := find_entsW nm M w
    rw [hf] at hr
    simp [run_underlying Tryd.underlying37, MapKept.run_getObj_map h, check_any, e, hr, Result.andThen]
theorem look_nilW (nm : ByteArray) (w : World) : (Instr.lookup 37 (.map none) (.string nm) true).run Tryd.prog w = .ok (.tuple #[fV ByteArray.empty, .bool false]) w := by
  unfold Instr.lookup
  have hz : ∀ w, (zeroValue 35).run Tryd.prog w = .ok (fV ByteArray.empty) w := Tryd.zeroValue35
  have hr : (Instr.findKey 9 (.string nm) []).run Tryd.prog w = .ok none w := find_entsW nm [] w
  simp [run_underlying Tryd.underlying37, check_any, Result.andThen, hz, hr]
theorem put_entsW (nm f : ByteArray) (c mb : Nat) (M : List EntW) (w : World) (h : w.heap[mb]? = some (.map (entsW M) c)) :
    (Instr.mapUpdate 37 (.map (some mb)) (.string nm) (fV f)).run Tryd.prog w = .ok () (setObjAt w mb (.map (entsW (putW nm f c M)) (clockW nm c M))) := by
  unfold Instr.mapUpdate putW clockW
  have e : (entsW M).toList = M.map entW := by simp [entsW]
  have hr := find_entsW nm M w
  cases hf : fndW nm M 0 with
  | none =>
    rw [hf] at hr
    simp [run_underlying Tryd.underlying37, MapKept.run_getObj_map h, check_any, e, hr, Result.andThen, MapKept.run_setObj_map _ h]
    rw [show (entsW M).push { key := .string nm, val := fV f, born := c } = entsW (M ++ [(nm, f, c)]) by simp [entsW, entW]]
    rfl
  | some p =>
    obtain ⟨k, g⟩ := p
    obtain ⟨j, b, hk, hj⟩ := fndW_spec nm M 0 k g hf
    rw [Nat.zero_add] at hk
    subst hk
    rw [hf] at hr
    have hkey : (((entsW M)[k]?).map (·.key)).getD (.string nm) = .string nm := by simp [entsW, hj, entW]
    have hmod : ((entsW M).modify k fun e => { e with key := .string nm, val := fV f }) = entsW (M.modify k fun x => (x.1, f, x.2.2)) := by
      apply Array.ext_getElem?
      intro i
      simp only [entsW, Array.getElem?_modify, List.getElem?_toArray, List.getElem?_map, List.getElem?_modify]
      by_cases hik : k = i
      · subst hik
        simp [hj, entW]
      · simp [hik]
    simp [run_underlying Tryd.underlying37, MapKept.run_getObj_map h, check_any, e, hr, Result.andThen, hkey, stays_any, MapKept.run_setObj_map _ h]
    rw [hmod]
    rfl
/-- what is looked up behind a store. -/
theorem valW_append (nm x f : ByteArray) (c : Nat) : ∀ M : List EntW, fndW nm M 0 = none → valW x (M ++ [(nm, f, c)]) = if x == nm then some f else valW x M := by
  intro M
  induction M with
  | nil => intro _; rw [List.nil_append, valW_cons]
  | cons y M ih =>
    intro h
    have h1 : (nm == y.1) = false := by
      cases hx : (nm == y.1) with
      | true => simp only [fndW, hx, if_true] at h; cases h
      | false => rfl
    have h2 : valW nm M = none := by
      have := valW_cons nm y M
      rw [h1] at this
      simp only [Bool.false_eq_true, if_false] at this
      rw [← this]
      unfold valW; rw [h]; rfl
    have h3 : fndW nm M 0 = none := by
      unfold valW at h2
      cases hm : fndW nm M 0 with
      | none => rfl
      | some p => rw [hm] at h2; cases h2
    rw [List.cons_append, valW_cons, valW_cons, ih h3]
    cases hx : (x == y.1) with
    | false => rfl
    | true =>
      have e1 : x = y.1 := bytes_eq _ _ hx
      have : (x == nm) = false := by
        cases hq : (x == nm) with
        | false => rfl
        | true =>
          have e2 : x = nm := bytes_eq _ _ hq
          rw [← e2, e1, bytes_same] at h1
          cases h1
      rw [this]; rfl
theorem valW_modify (nm x f : ByteArray) : ∀ (M : List EntW) (k : Nat) (g : ByteArray), fndW nm M 0 = some (k, g) → valW x (M.modify k fun y => (y.1, f, y.2.2)) = if x == nm then some f else valW x M := by
  have key : ∀ (M : List EntW) (i k : Nat) (g : ByteArray), fndW nm M i = some (i + k, g) → valW x (M.modify k fun y => (y.1, f, y.2.2)) = if x == nm then some f else valW x M := by
    intro M
    induction M with
    | nil => intro i k g h; cases h
    | cons y M ih =>
      intro i k g h
      unfold fndW at h
      cases hy : (nm == y.1) with
      | true =>
        rw [hy, if_pos rfl] at h
        injection h with h
        injection h with h1 h2
        have hk : k = 0 := by omega
        subst hk
        have e1 : nm = y.1 := bytes_eq _ _ hy
        rw [List.modify_zero_cons, valW_cons, valW_cons, e1]
        cases hx : (x == y.1) <;> rfl
      | false =>
        rw [hy, if_neg (by simp)] at h
        cases k with
        | zero =>
          obtain ⟨j, b, e, _⟩ := fndW_spec nm M (i + 1) _ _ h
          omega
        | succ k =>
          rw [List.modify_succ_cons, valW_cons, valW_cons, ih (i + 1) k g (by rw [h]; congr 1; congr 1; omega)]
          cases hx : (x == y.1) with
          | false => rfl
          | true =>
            have e1 : x = y.1 := bytes_eq _ _ hx
            have : (x == nm) = false := by
              cases hq : (x == nm) with
              | false => rfl
              | true =>
                have e2 : x = nm := bytes_eq _ _ hq
                rw [← e2, e1, bytes_same] at hy
                cases hy
            rw [this]; rfl
  intro M k g h
  exact key M 0 k g (by rw [Nat.zero_add]; exact h)
theorem valW_put (nm x f : ByteArray) (c : Nat) (M : List EntW) : valW x (putW nm f c M) = if x == nm then some f else valW x M := by
  unfold putW
  cases h : fndW nm M 0 with
  | none => exact valW_append nm x f c M h
  | some p => exact valW_modify nm x f M p.1 p.2 h
/-- a map, as a function. -/
def MapIs (w : World) (mb : Nat) (f : Wd → Option Wd) : Prop := ∃ M c, w.heap[mb]? = some (.map (entsW M) c) ∧ ∀ l, valW (bs l) M = (f l).map bs
theorem MapIs.move {w w' : World} {mb : Nat} {f : Wd → Option Wd} (h : MapIs w mb f) (hb : w'.heap[mb]? = w.heap[mb]?) : MapIs w' mb f := by
  obtain ⟨M, c, h1, h2⟩ := h
  exact ⟨M, c, hb.trans h1, h2⟩
theorem MapIs.lt {w : World} {mb : Nat} {f : Wd → Option Wd} (h : MapIs w mb f) : mb < w.heap.size := by
  obtain ⟨M, c, h1, _⟩ := h
  exact heap_lt2 h1
theorem MapIs.later {w w' : World} {mb : Nat} {f : Wd → Option Wd} (h : MapIs w mb f) (hb : Below w.heap.size w w') : MapIs w' mb f := h.move (hb.block _ h.lt)
def upW (f : Wd → Option Wd) (k v : Wd) : Wd → Option Wd := fun l => if l = k then some v else f l
theorem MapIs.put {w : World} {mb : Nat} {f : Wd → Option Wd} (h : MapIs w mb f) (k v : Wd) : ∃ o, (Instr.mapUpdate 37 (.map (some mb)) (sV k) (fV (bs v))).run Tryd.prog w = .ok () (setObjAt w mb o) ∧ MapIs (setObjAt w mb o) mb (upW f k v) := by
  obtain ⟨M, c, h1, h2⟩ := h
  refine ⟨_, put_entsW (bs k) (bs v) c mb M w h1, _, _, setObjAt_at h1, fun l => ?_⟩
  rw [valW_put, h2 l]
  rw [bs_beq]
  unfold upW
  by_cases e : l = k
  · simp [e]
  · simp [e]
theorem MapIs.look {w : World} {mb : Nat} {f : Wd → Option Wd} (h : MapIs w mb f) (l : Wd) : (Instr.lookup 37 (.map (some mb)) (sV l) true).run Tryd.prog w = .ok (.tuple #[fV (bs ((f l).getD [])), .bool (f l).isSome]) w := by
  obtain ⟨M, c, h1, h2⟩ := h
  rw [look_entsW (bs l) M w mb c h1, h2 l]
  cases f l <;> rfl
end Go.Proofs.YtbgihfjagfbfgaaDoor
