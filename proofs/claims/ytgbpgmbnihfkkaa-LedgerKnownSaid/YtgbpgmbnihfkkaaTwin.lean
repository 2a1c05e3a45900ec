/- the reference's disk: rows of files, parted, joined, stored -/
import Derived.Test.YtgbpgmbnihfkkaaRApp
import Derived.Test.YtgbpgmbnihfkkaaRegD
import Derived.Test.YtgbpgmbnihfkkaaDOpen
import Derived.Deep.DeepCutAuto
import Derived.Deep.CutBlock
import Derived.Test.YtgbpgmbnihfkkaaCrash
namespace Go.Proofs.Ytgbpgmbnihfkkaa
open Go.RowKit
set_option linter.unusedSectionVars false
variable [Zone]
theorem Is3.take {w : World} {ty : TypeId} {ao : Option Addr} {n cap k : Nat} {T : List V3} (h : Is3 w ty ao n cap T) (hk : k ≤ n) : Is3 w ty ao k cap (T.take k) := by
  obtain ⟨h1, h2, h3, h4, h5, h6⟩ := h
  refine ⟨by rw [List.length_take, h1]; omega, by omega, h3, fun e => ⟨by have := (h4 e).1; omega, (h4 e).2⟩, fun u hu => h5 u (by rw [flat3_take] at hu; exact List.mem_of_mem_take hu), fun h0 => ?_⟩
  obtain ⟨b, off, c, fr, e, hb, hc⟩ := h6 (by omega)
  refine ⟨b, off, c, fr, e, hb, fun j u hu => hc j u ?_⟩
  rw [flat3_take, List.getElem?_take] at hu
  split at hu
  · exact hu
  · cases hu
theorem Is3.drop {w : World} {ty : TypeId} {b off : Nat} {n cap k : Nat} {T : List V3} (h : Is3 w ty (some ⟨b, off, none⟩) n cap T) (hk : k ≤ n) : Is3 w ty (some ⟨b, off + k * 3, none⟩) (n - k) (cap - k) (T.drop k) := by
  obtain ⟨h1, h2, h3, h4, h5, h6⟩ := h
  refine ⟨by rw [List.length_drop, h1], by omega, by omega, (fun e => by cases e), fun u hu => h5 u (by rw [flat3_drop] at hu; exact List.mem_of_mem_drop hu), fun h0 => ?_⟩
  obtain ⟨b', off', c, fr, e, hb, hc⟩ := h6 (by omega)
  injection e with e
  injection e with e1 e2
  subst e1
  subst e2
  refine ⟨_, _, c, fr, rfl, hb, fun j u hu => ?_⟩
  rw [flat3_drop, List.getElem?_drop] at hu
  rw [Nat.add_assoc]
  exact hc _ u hu
theorem Own3.other {w : World} {base : Nat} {ty : TypeId} {v : Value} {T : List V3} (h : Own3 w base ty v T) {j : Nat} {c : Array Value} {ty' : TypeId} {fr : Nat × Nat} (hc : w.heap[j]? = some (Obj.cells c ty' fr)) (hne : ty' ≠ ty) : some j ≠ v.ownBlock := by
  intro e
  rcases h.1.2 with ⟨rfl, _⟩ | ⟨g, cap, cur, rfl, _, hg, _⟩
  · simp [Value.ownBlock] at e
  · simp only [Value.ownBlock, Option.some.injEq] at e
    subst e
    rw [hc] at hg
    injection hg with hg
    injection hg with _ hg
    exact hne hg
end Go.Proofs.Ytgbpgmbnihfkkaa

/- the reference's disk: remove -/
set_option linter.unusedSimpArgs false
namespace Go.Proofs.Ytgbpgmbnihfkkaa
open Go.RowKit
set_option linter.unusedSectionVars false
variable [Zone]
end Go.Proofs.Ytgbpgmbnihfkkaa

/- the reference's disk: Remove -/
namespace Go.Proofs.Ytgbpgmbnihfkkaa
open Go.RowKit
set_option linter.unusedSectionVars false
variable [Zone]
end Go.Proofs.Ytgbpgmbnihfkkaa

/- the reference's disk: towards Append: a row of acts beside a row of bytes that grows -/
namespace Go.Proofs.Ytgbpgmbnihfkkaa
open Go.RowKit
set_option linter.unusedSectionVars false
variable [Zone]
theorem opwp_append_bytes {w : World} {o : Oper} {a : Act} {K : Act → World → Prop} {Q : Exit → Act → World → Prop} (s x : Operand)
    (ho : o.op = .call { callee := .builtin .append, args := #[s, x], argTypes := #[30, 30] })
    (base : Nat) (v : Value) (l : List UInt8) (hs : a.eval s = v) (hown : OwnB w base v l)
    (ao : Option Addr) (m c : Nat) (l2 : List UInt8) (hx : a.eval x = .slice ao m c) (hsrc : IsBytes w ao m c l2) (hnm : l.length + m ≤ 140737488355328) (hbase : base ≤ w.heap.size)
    (h : ∀ v' w', OwnB w' base v' (l ++ l2) → w.grownBy w' v.ownBlock → K (a.put o.dst v') w') : o.wp Try.prog a w K Q := by
  obtain ⟨v', w', hr, h2, h3, _⟩ := run_append_bytes o.type base v l hown ao m c l2 hsrc hnm hbase
  unfold Oper.wp execOp
  simp only [ho, resolve, invoke, builtin, Sem.run_bind, Sem.run_pure, Result.andThen_ok, List.map_toArray, List.map_cons, List.map_nil, hs, hx, hr]
  exact h v' w' h2 h3
theorem Below.grownB {B : Nat} {w w1 w2 : World} {v : Value} {l : List UInt8} (h : Below B w w1) (hown : OwnB w1 B v l) (hs : B ≤ w1.heap.size) (hg : w1.grownBy w2 v.ownBlock) : Below B w w2 := h.grown hg hs (fun k hk => (hown.1.lt k hk).1)
theorem set_getD_self (R : List FileV) (k : Nat) (hk : k < R.length) : R.set k (R.getD k f0) = R := by
  apply List.ext_getElem?
  intro i
  rw [List.getElem?_set]
  split
  · rename_i e
    subst e
    rw [List.getD_eq_getElem?_getD, List.getElem?_eq_getElem hk]
    rfl
  · rfl
/-- where a name stands is where it stands first. -/
theorem AtR.is {s : ByteArray} {R : List FileV} {z : Int} {k : Nat} (h : AtR s R z) (hk : k < R.length) (hs : (R.getD k f0).1 = s) (hb : ∀ j, j < k → (R.getD j f0).1 ≠ s) : z = (k : Int) := by
  rcases h with ⟨i, rfl, hi, e, hbi⟩ | ⟨_, hn⟩
  · rcases Nat.lt_trichotomy i k with q | q | q
    · exact absurd e (hb i q)
    · rw [q]
    · exact absurd hs (hbi k q)
  · exact absurd hs (hn k hk)
theorem AtR.none {s : ByteArray} {R : List FileV} {z : Int} (h : AtR s R z) (hs : ∀ j, j < R.length → (R.getD j f0).1 ≠ s) : z = -1 := by
  rcases h with ⟨i, _, hi, e, _⟩ | ⟨e, _⟩
  · exact absurd e (hs i hi)
  · exact e
end Go.Proofs.Ytgbpgmbnihfkkaa

/- the reference's disk: name -/
namespace Go.Proofs.Ytgbpgmbnihfkkaa
open Go.RowKit
end Go.Proofs.Ytgbpgmbnihfkkaa

/- the reference's disk: Cut -/
set_option linter.unusedSimpArgs false
namespace Go.Proofs.Ytgbpgmbnihfkkaa
open Go.RowKit
set_option linter.unusedSectionVars false
variable [Zone]
theorem heap_alloc_old' (w : World) (o : Obj) {j : Nat} (h : j < w.heap.size) : (w.alloc o).heap[j]? = w.heap[j]? := ((Below.refl w.heap.size w).alloc (Nat.le_refl _) o).block j h
end Go.Proofs.Ytgbpgmbnihfkkaa

/- the reference's disk: Append at a file that is there -/
set_option linter.unusedSimpArgs false
namespace Go.Proofs.Ytgbpgmbnihfkkaa
open Go.RowKit
set_option linter.unusedSectionVars false
variable [Zone]
theorem OwnB.grown' {w w' : World} {base g : Nat} {l : List UInt8} {n c : Nat} (h : OwnB w base (.slice (some ⟨g, 0, none⟩) n c) l) (he : w'.heap[g]? = w.heap[g]?) : OwnB w' base (.slice (some ⟨g, 0, none⟩) n c) l :=
  ⟨ownsRow_move h.1 (fun j hj => by cases hj; exact he), h.2.move (fun j hj => by cases hj; exact he)⟩
theorem runD_length_le : ∀ (S : List UInt8) (D : List Deed), (runD S D).length ≤ S.length + unitsD D
  | S, [] => by simp [runD]
  | S, .more x :: D => by
    have := runD_length_le (S ++ x) D
    simp only [runD, unitsD, List.map_cons, List.sum_cons, Deed.units, List.length_append] at *
    omega
  | S, .cut z :: D => by
    have := runD_length_le (S.take z) D
    simp only [runD, unitsD, List.map_cons, List.sum_cons, Deed.units, List.length_take] at *
    omega
/-- what an append adds. -/
def addB (B : List UInt8) : List Deed := if B = [] then [] else [.more B]
end Go.Proofs.Ytgbpgmbnihfkkaa

/- the reference's disk: Append of a new file -/
set_option linter.unusedSimpArgs false
namespace Go.Proofs.Ytgbpgmbnihfkkaa
open Go.RowKit
set_option linter.unusedSectionVars false
variable [Zone]
/-- where a new name comes to stand. -/
def InsAt (s : ByteArray) (R : List FileV) (k : Nat) : Prop := k ≤ R.length ∧ (∀ j, j < k → Op.bytesLess (R.getD j f0).1.toList s.toList = true) ∧ (k < R.length → Op.bytesLess (R.getD k f0).1.toList s.toList = false)
def insF (R : List FileV) (k : Nat) (x : FileV) : List FileV := R.take k ++ [x] ++ R.drop k
theorem insAt_ex (s : ByteArray) (R : List FileV) : ∃ k, InsAt s R k := by
  have key : ∀ d k, R.length - k = d → k ≤ R.length → (∀ j, j < k → Op.bytesLess (R.getD j f0).1.toList s.toList = true) → ∃ k, InsAt s R k := by
    intro d
    induction d with
    | zero => exact fun k h1 h2 h3 => ⟨k, h2, h3, fun h => absurd h (by omega)⟩
    | succ d ih =>
      intro k h1 h2 h3
      by_cases hb : Op.bytesLess (R.getD k f0).1.toList s.toList = true
      · refine ih (k + 1) (by omega) (by omega) (fun j hj => ?_)
        rcases Nat.lt_succ_iff_lt_or_eq.1 hj with q | rfl
        · exact h3 j q
        · exact hb
      · exact ⟨k, h2, h3, fun _ => by simpa using hb⟩
  exact key _ 0 rfl (Nat.zero_le _) (fun j hj => absurd hj (by omega))
theorem insF_length {R : List FileV} {k : Nat} (x : FileV) (h : k ≤ R.length) : (insF R k x).length = R.length + 1 := by
  unfold insF
  simp only [List.length_append, List.length_take, List.length_drop, List.length_cons, List.length_nil]
  omega
theorem insF_at {R : List FileV} {k : Nat} (x : FileV) (h : k ≤ R.length) : (insF R k x).getD k f0 = x := by
  unfold insF
  have hl : (R.take k).length = k := by rw [List.length_take]; omega
  rw [List.append_assoc, List.getD_eq_getElem?_getD, List.getElem?_append_right (by omega), hl, Nat.sub_self]
  rfl
theorem insF_set {R : List FileV} {k : Nat} (x y : FileV) (h : k ≤ R.length) : (insF R k x).set k y = insF R k y := by
  unfold insF
  have hl : (R.take k).length = k := by rw [List.length_take]; omega
  rw [List.append_assoc, List.set_append, if_neg (by omega), hl, Nat.sub_self, List.append_assoc]
  rfl
end Go.Proofs.Ytgbpgmbnihfkkaa

/- the reference's disk: what its calls leave as it was; a file's safe bytes -/
namespace Go.Proofs.Ytgbpgmbnihfkkaa
open Go.RowKit
set_option linter.unusedSectionVars false
variable [Zone]
theorem IsBytesZ.later {w w' : World} {ao : Option Addr} {n cap : Nat} {l : List UInt8} (h : IsBytesZ w ao n cap l) (hb : Below w.heap.size w w') : IsBytesZ w' ao n cap l := h.moved fun j _ _ hc => hb.block j (block_lt_of_cell hc)
theorem atR_ex (s : ByteArray) (R : List FileV) : ∃ z, AtR s R z := by
  have key : ∀ d k, R.length - k = d → k ≤ R.length → (∀ j, j < k → (R.getD j f0).1 ≠ s) → ∃ z, AtR s R z := by
    intro d
    induction d with
    | zero => exact fun k h1 h2 h3 => ⟨-1, .inr ⟨rfl, fun j hj => h3 j (by omega)⟩⟩
    | succ d ih =>
      intro k h1 h2 h3
      by_cases hb : (R.getD k f0).1 = s
      · exact ⟨k, .inl ⟨k, rfl, by omega, hb, h3⟩⟩
      · refine ih (k + 1) (by omega) (by omega) (fun j hj => ?_)
        rcases Nat.lt_succ_iff_lt_or_eq.1 hj with q | rfl
        · exact h3 j q
        · exact hb
  exact key _ 0 rfl (Nat.zero_le _) (fun j hj => absurd hj (by omega))
end Go.Proofs.Ytgbpgmbnihfkkaa

/- the reference's disk: keeps, walked -/
namespace Go.Proofs.Ytgbpgmbnihfkkaa
open Go.RowKit
set_option linter.unusedSectionVars false
variable [Zone]
end Go.Proofs.Ytgbpgmbnihfkkaa

/- the reference's disk: Crash -/
set_option linter.unusedSimpArgs false
namespace Go.Proofs.Ytgbpgmbnihfkkaa
open Go.RowKit
set_option linter.unusedSectionVars false
variable [Zone]
/-- a file behind a crash. -/
def crashAt (K : List Int) (j : Nat) (x : FileV) : FileV := (x.1, runD x.2.1 (keepsD (unitK K j x.2.2).toNat x.2.2), [])
def CrashedR (K : List Int) (R L : List FileV) : Prop := L.length = R.length ∧ ∀ j, j < R.length → L.getD j f0 = crashAt K j (R.getD j f0)
end Go.Proofs.Ytgbpgmbnihfkkaa

/- a disk and the reference's: the same files -/
namespace Go.Proofs.Ytgbpgmbnihfkkaa
open Go.RowKit
set_option linter.unusedSectionVars false
abbrev nmL (x : ByteArray) : List UInt8 := x.data.toList
theorem less_iff (x y : ByteArray) : Op.bytesLess x.toList y.toList = true ↔ nmL x < nmL y := by
  rw [bytesLess_eq, Lib.toList_data, Lib.toList_data]
  simp
theorem less_not (x y : ByteArray) : Op.bytesLess x.toList y.toList = false ↔ nmL y ≤ nmL x := by
  rw [bytesLess_eq, Lib.toList_data, Lib.toList_data]
  simp
/-- the reference's files R are a disk's files M, C: by rising names. -/
structure Mir (M : List Ent) (C : Cont) (R : List FileV) : Prop where
  rise : R.Pairwise fun x y => nmL x.1 < nmL y.1
  has : ∀ x ∈ R, ∃ f b, (x.1, f, b) ∈ M ∧ C f = x.2
  all : ∀ y ∈ M, ∃ x ∈ R, x.1 = y.1
theorem getD_mem' {R : List FileV} {k : Nat} (hk : k < R.length) : R.getD k f0 ∈ R := by
  rw [List.getD_eq_getElem?_getD, List.getElem?_eq_getElem hk]
  exact List.getElem_mem hk
theorem mem_getD' {R : List FileV} {x : FileV} (h : x ∈ R) : ∃ k, k < R.length ∧ R.getD k f0 = x := by
  obtain ⟨k, hk, e⟩ := List.getElem_of_mem h
  exact ⟨k, hk, by rw [List.getD_eq_getElem?_getD, List.getElem?_eq_getElem hk]; exact e⟩
theorem nm_one {M : List Ent} (hn : (M.map (·.1)).Nodup) {x y : Ent} (hx : x ∈ M) (hy : y ∈ M) (e : x.1 = y.1) : x = y := by
  induction M with
  | nil => cases hx
  | cons z M ih =>
    rw [List.map_cons, List.nodup_cons] at hn
    rcases List.mem_cons.1 hx with rfl | hx
    · rcases List.mem_cons.1 hy with rfl | hy
      · rfl
      · exact absurd (List.mem_map.2 ⟨y, hy, e.symm⟩) hn.1
    · rcases List.mem_cons.1 hy with h9 | hy
      · exact absurd (List.mem_map.2 ⟨x, hx, by rw [e, h9]⟩) hn.1
      · exact ih hn.2 hx hy
theorem fileOf_of {M : List Ent} (hn : (M.map (·.1)).Nodup) {nm : ByteArray} {f b : Nat} (h : (nm, f, b) ∈ M) : fileOf nm M = some f := by
  obtain ⟨f', hf⟩ := fileOf_some h
  obtain ⟨b', hb⟩ := fileOf_mem hf
  have e := nm_one hn h hb rfl
  injection e with _ e
  injection e with e _
  rw [e]
  exact hf
theorem rise_inj {R : List FileV} (h : R.Pairwise fun x y => nmL x.1 < nmL y.1) {i j : Nat} (hi : i < R.length) (hj : j < R.length) (e : (R.getD i f0).1 = (R.getD j f0).1) : i = j := by
  rw [List.pairwise_iff_getElem] at h
  rw [List.getD_eq_getElem?_getD, List.getD_eq_getElem?_getD, List.getElem?_eq_getElem hi, List.getElem?_eq_getElem hj] at e
  rcases Nat.lt_trichotomy i j with q | q | q
  · have := h i j hi hj q
    rw [show R[i].1 = R[j].1 from e] at this
    exact absurd this (List.lt_irrefl _)
  · exact q
  · have := h j i hj hi q
    rw [show R[i].1 = R[j].1 from e] at this
    exact absurd this (List.lt_irrefl _)
variable {M : List Ent} {C : Cont} {R : List FileV}
theorem Mir.at (h : Mir M C R) (hn : (M.map (·.1)).Nodup) {nm : ByteArray} {z : Int} (hz : AtR nm R z) (h0 : 0 ≤ z) : ∃ f b, (nm, f, b) ∈ M ∧ fileOf nm M = some f ∧ C f = (R.getD z.toNat f0).2 ∧ z.toNat < R.length ∧ (R.getD z.toNat f0).1 = nm := by
  rcases hz with ⟨k, rfl, hk, e, _⟩ | ⟨rfl, _⟩
  · obtain ⟨f, b, h1, h2⟩ := h.has _ (getD_mem' hk)
    rw [e] at h1
    exact ⟨f, b, h1, fileOf_of hn h1, h2, hk, e⟩
  · omega
theorem Mir.no (h : Mir M C R) {nm : ByteArray} {z : Int} (hz : AtR nm R z) (h0 : z < 0) : fileOf nm M = none ∧ ∀ x ∈ R, x.1 ≠ nm := by
  rcases hz with ⟨k, rfl, hk, e, _⟩ | ⟨rfl, hno⟩
  · omega
  · have hR : ∀ x ∈ R, x.1 ≠ nm := fun x hx e => by
      obtain ⟨k, hk, rfl⟩ := mem_getD' hx
      exact hno k hk e
    refine ⟨?_, hR⟩
    cases hf : fileOf nm M with
    | none => rfl
    | some f =>
      obtain ⟨b, hb⟩ := fileOf_mem hf
      obtain ⟨x, hx, e⟩ := h.all _ hb
      exact absurd e (hR x hx)
theorem Mir.names (h : Mir M C R) (hn : (M.map (·.1)).Nodup) : sortN M = R.map fun x => nmL x.1 := by
  have hrise : (R.map fun x => nmL x.1).Pairwise (· < ·) := List.pairwise_map.2 h.rise
  have hnd : (R.map fun x => nmL x.1).Nodup := hrise.imp (fun {a b} hab e => by rw [e] at hab; exact List.lt_irrefl _ hab)
  have hnM : (M.map fun x => nmL x.1).Nodup := by
    have e : (M.map fun x => nmL x.1) = (M.map (·.1)).map nmL := by simp
    rw [e]
    exact List.pairwise_map.2 (hn.imp (fun {a b} hab e => hab (bytes_inj e)))
  have hp : (M.map fun x => nmL x.1).Perm (R.map fun x => nmL x.1) := by
    refine (List.perm_ext_iff_of_nodup hnM hnd).2 (fun a => ⟨fun ha => ?_, fun ha => ?_⟩)
    · obtain ⟨y, hy, rfl⟩ := List.mem_map.1 ha
      obtain ⟨x, hx, e⟩ := h.all y hy
      exact List.mem_map.2 ⟨x, hx, by rw [e]⟩
    · obtain ⟨x, hx, rfl⟩ := List.mem_map.1 ha
      obtain ⟨f, b, h1, _⟩ := h.has x hx
      exact List.mem_map.2 ⟨_, h1, rfl⟩
  unfold sortN
  rw [mergeSort_of_perm hp]
  exact List.mergeSort_of_pairwise (hrise.imp (fun {a b} hab => by simp only [leB, decide_eq_true_eq]; exact List.le_of_lt hab))
theorem Mir.length (h : Mir M C R) (hn : (M.map (·.1)).Nodup) : R.length = M.length := by
  rw [← sortN_length M, h.names hn, List.length_map]
theorem Mir.set (h : Mir M C R) (hn : (M.map (·.1)).Nodup) (hap : ∀ x ∈ M, ∀ y ∈ M, x.2.1 = y.2.1 → x.1 = y.1) {k f b : Nat} {nm : ByteArray} (hk : k < R.length) (hf : (nm, f, b) ∈ M) (he : (R.getD k f0).1 = nm) (v : List UInt8 × List Deed) : Mir M (setC C f v) (R.set k ((R.getD k f0).1, v)) := by
  refine ⟨?_, fun x hx => ?_, fun y hy => ?_⟩
  · have h1 := List.pairwise_map.2 h.rise
    have e : (R.set k ((R.getD k f0).1, v)).map (fun x => nmL x.1) = R.map (fun x => nmL x.1) := by
      rw [List.map_set]
      apply List.ext_getElem?
      intro i
      rw [List.getElem?_set]
      split
      · rename_i e
        subst e
        rw [if_pos (by simpa using hk), List.getElem?_map, List.getElem?_eq_getElem hk, List.getD_eq_getElem?_getD, List.getElem?_eq_getElem hk]
        rfl
      · rfl
    rw [← e] at h1
    exact List.pairwise_map.1 h1
  · obtain ⟨j, hj, rfl⟩ := mem_getD' hx
    rw [List.length_set] at hj
    by_cases e : j = k
    · subst e
      rw [getD_set_at hj]
      exact ⟨f, b, by rw [he]; exact hf, setC_at _ _ _⟩
    · rw [getD_set_ne e]
      obtain ⟨f', b', h1, h2⟩ := h.has _ (getD_mem' hj)
      refine ⟨f', b', h1, ?_⟩
      rw [setC_ne _ _ (fun e2 => ?_)]
      · exact h2
      · have := hap _ h1 _ hf e2
        exact e (rise_inj h.rise hj hk (this.trans he.symm))
  · obtain ⟨x, hx, e⟩ := h.all y hy
    obtain ⟨j, hj, rfl⟩ := mem_getD' hx
    by_cases ek : j = k
    · subst ek
      exact ⟨_, List.mem_set hj _, e⟩
    · exact ⟨R.getD j f0, by rw [← getD_set_ne ek (x := ((R.getD k f0).1, v))]; exact getD_mem' (by rw [List.length_set]; exact hj), e⟩
theorem insF_rise {nm : ByteArray} {k : Nat} {v : List UInt8 × List Deed} (h : R.Pairwise fun x y => nmL x.1 < nmL y.1) (hno : ∀ x ∈ R, x.1 ≠ nm) (hk : InsAt nm R k) : (insF R k (nm, v)).Pairwise fun x y => nmL x.1 < nmL y.1 := by
  obtain ⟨h1, h2, h3⟩ := hk
  have hlo : ∀ x ∈ R.take k, nmL x.1 < nmL nm := fun x hx => by
    obtain ⟨j, hj, rfl⟩ := mem_getD' hx
    rw [List.length_take] at hj
    have e1 : (R.take k).getD j f0 = R.getD j f0 := by rw [List.getD_eq_getElem?_getD, List.getElem?_take, if_pos (by omega), ← List.getD_eq_getElem?_getD]
    rw [e1]
    exact (less_iff _ _).1 (h2 j (by omega))
  have hhi : ∀ x ∈ R.drop k, nmL nm < nmL x.1 := fun x hx => by
    by_cases hl : k < R.length
    · have hkk : nmL nm < nmL (R.getD k f0).1 := Std.lt_of_le_of_ne ((less_not _ _).1 (h3 hl)) (fun e => hno _ (getD_mem' hl) (bytes_inj e).symm)
      rw [List.drop_eq_getElem_cons hl] at hx
      have e1 : R.getD k f0 = R[k] := by rw [List.getD_eq_getElem?_getD, List.getElem?_eq_getElem hl]; rfl
      rcases List.mem_cons.1 hx with rfl | hx
      · rw [e1] at hkk; exact hkk
      · rw [e1] at hkk
        have hp := (List.pairwise_append.1 (by rw [List.take_append_drop k R]; exact h : (R.take k ++ R.drop k).Pairwise fun x y => nmL x.1 < nmL y.1)).2.1
        rw [List.drop_eq_getElem_cons hl] at hp
        exact List.lt_trans hkk ((List.pairwise_cons.1 hp).1 x hx)
    · rw [List.drop_of_length_le (by omega)] at hx
      cases hx
  have hp := List.pairwise_append.1 (by rw [List.take_append_drop k R]; exact h : (R.take k ++ R.drop k).Pairwise fun x y => nmL x.1 < nmL y.1)
  unfold insF
  rw [List.append_assoc]
  refine List.pairwise_append.2 ⟨hp.1, List.pairwise_append.2 ⟨by simp, hp.2.1, fun x hx y hy => ?_⟩, fun x hx y hy => ?_⟩
  · rw [List.mem_singleton.1 hx]
    exact hhi y hy
  · rcases List.mem_append.1 hy with hy | hy
    · rw [List.mem_singleton.1 hy]
      exact hlo x hx
    · exact hp.2.2 x hx y hy
theorem mem_insF {k : Nat} {x y : FileV} : y ∈ insF R k x ↔ y = x ∨ y ∈ R := by
  unfold insF
  rw [List.mem_append, List.mem_append, List.mem_singleton]
  constructor
  · rintro ((h | h) | h)
    · exact .inr (List.mem_of_mem_take h)
    · exact .inl h
    · exact .inr (List.mem_of_mem_drop h)
  · rintro (h | h)
    · exact .inl (.inr h)
    · rw [← List.take_append_drop k R] at h
      rcases List.mem_append.1 h with h | h
      · exact .inl (.inl h)
      · exact .inr h
theorem Mir.new (h : Mir M C R) {k f c : Nat} {nm : ByteArray} {v : List UInt8 × List Deed} (hno : ∀ x ∈ R, x.1 ≠ nm) (hff : ∀ y ∈ M, y.2.1 ≠ f) (hk : InsAt nm R k) : Mir (M ++ [(nm, f, c)]) (setC C f v) (insF R k (nm, v)) := by
  refine ⟨insF_rise h.rise hno hk, fun x hx => ?_, fun y hy => ?_⟩
  · rcases mem_insF.1 hx with rfl | hx
    · exact ⟨f, c, by simp, setC_at _ _ _⟩
    · obtain ⟨f', b', h1, h2⟩ := h.has x hx
      exact ⟨f', b', List.mem_append_left _ h1, by rw [setC_ne _ _ (hff _ h1)]; exact h2⟩
  · rcases List.mem_append.1 hy with hy | hy
    · obtain ⟨x, hx, e⟩ := h.all y hy
      exact ⟨x, mem_insF.2 (.inr hx), e⟩
    · rw [List.mem_singleton.1 hy]
      exact ⟨_, mem_insF.2 (.inl rfl), rfl⟩
theorem mem_cut {k : Nat} (h : R.Pairwise fun x y => nmL x.1 < nmL y.1) (hk : k < R.length) {x : FileV} : x ∈ R.take k ++ R.drop (k + 1) ↔ x ∈ R ∧ x.1 ≠ (R.getD k f0).1 := by
  have hR : R = R.take k ++ R.getD k f0 :: R.drop (k + 1) := by
    have e1 : R.getD k f0 = R[k] := by rw [List.getD_eq_getElem?_getD, List.getElem?_eq_getElem hk]; rfl
    rw [e1, ← List.drop_eq_getElem_cons hk, List.take_append_drop]
  have hp : (R.take k ++ R.getD k f0 :: R.drop (k + 1)).Pairwise fun x y => nmL x.1 < nmL y.1 := by rw [← hR]; exact h
  obtain ⟨_, p2, p3⟩ := List.pairwise_append.1 hp
  constructor
  · intro hx
    rcases List.mem_append.1 hx with hx | hx
    · refine ⟨List.mem_of_mem_take hx, fun e => ?_⟩
      have := p3 x hx _ (List.mem_cons_self ..)
      rw [e] at this
      exact List.lt_irrefl _ this
    · refine ⟨List.mem_of_mem_drop hx, fun e => ?_⟩
      have := (List.pairwise_cons.1 p2).1 x hx
      rw [e] at this
      exact List.lt_irrefl _ this
  · rintro ⟨hx, hne⟩
    rw [hR] at hx
    rcases List.mem_append.1 hx with hx | hx
    · exact List.mem_append_left _ hx
    · rcases List.mem_cons.1 hx with rfl | hx
      · exact absurd rfl hne
      · exact List.mem_append_right _ hx
theorem rise_cut {k : Nat} (h : R.Pairwise fun x y => nmL x.1 < nmL y.1) : (R.take k ++ R.drop (k + 1)).Pairwise fun x y => nmL x.1 < nmL y.1 := by
  refine h.sublist ?_
  have e : (R.take k ++ R.drop k).Sublist R := by rw [List.take_append_drop]; exact List.Sublist.refl _
  refine List.Sublist.trans (List.Sublist.append (List.Sublist.refl _) ?_) e
  rw [← List.drop_drop]
  exact List.drop_sublist _ _
/-- of a list of files of which a name is taken away. -/
theorem Mir.del (h : Mir M C R) (hn : (M.map (·.1)).Nodup) {k : Nat} {nm : ByteArray} (hk : k < R.length) (he : (R.getD k f0).1 = nm) : Mir (delE nm M) C (R.take k ++ R.drop (k + 1)) := by
  refine ⟨rise_cut h.rise, fun x hx => ?_, fun y hy => ?_⟩
  · obtain ⟨h1, h2⟩ := (mem_cut h.rise hk).1 hx
    obtain ⟨f, b, q1, q2⟩ := h.has x h1
    exact ⟨f, b, (delE_mem hn).2 ⟨q1, by rw [he] at h2; exact h2⟩, q2⟩
  · obtain ⟨h1, h2⟩ := (delE_mem hn).1 hy
    obtain ⟨x, hx, e⟩ := h.all y h1
    exact ⟨x, (mem_cut h.rise hk).2 ⟨hx, by rw [he, e]; exact h2⟩, e⟩
theorem delE_once {nm : ByteArray} (hn : (M.map (·.1)).Nodup) : ((delE nm M).map (·.1)).Nodup := by
  rw [delE_filter hn]
  exact hn.sublist (List.Sublist.map _ List.filter_sublist)
theorem putE_has {nm : ByteArray} {f c : Nat} (hn : (M.map (·.1)).Nodup) : (∃ b, (nm, f, b) ∈ putE nm f c M) ∧ ∀ x ∈ M, x.1 ≠ nm → x ∈ putE nm f c M := by
  cases hf : fileOf nm M with
  | none =>
    rw [putE_new hf]
    exact ⟨⟨c, by simp⟩, fun x hx _ => List.mem_append_left _ hx⟩
  | some g =>
    rw [putE_old hn hf]
    obtain ⟨b, hb⟩ := fileOf_mem hf
    exact ⟨⟨b, List.mem_map.2 ⟨_, hb, by rw [if_pos rfl]⟩⟩, fun x hx hne => List.mem_map.2 ⟨x, hx, by rw [if_neg hne]⟩⟩
end Go.Proofs.Ytgbpgmbnihfkkaa
