/- layer 28's statements: opens -/
import Derived.Test.YtgbpgmbnihfkkaaPAct3
import Derived.Test.YtgbpgmbnihfkkaaNames
import Derived.Deep.Matrix
import Derived.Deep.Slices
import Derived.WideShapes
import Derived.ChangeSlices
import Derived.SizedLaws
set_option linter.unusedSimpArgs false
set_option linter.unusedVariables false
namespace Go.Proofs.Ytgbpgmbnihfkkaa
open Go.RowKit
set_option linter.unusedSectionVars false
theorem Loose.over {w w' : World} {B S n : Nat} {v u : Value} {vs : List Value} (h1 : vs.length = n) (h2 : w.ownsRow B 30 1 v n vs) (h2b : ∀ g, v.ownBlock = some g → g < S)
    (h3 : ∀ i, i < n → ∃ u l, vs[i]? = some u ∧ OwnB w B u l ∧ (∀ g, u.ownBlock = some g → g < S)) {l : List UInt8} (hu : OwnB w B u l) (hg : w.grownBy w' u.ownBlock)
    (ho : ∀ base2 u l2, OwnB w base2 u l2 → ∃ l3 : List UInt8, l3.length = l2.length ∧ OwnB w' base2 u l3) : Loose w' B S n v := by
  refine ⟨vs, h1, ?_, h2b, fun i hi => ?_⟩
  · refine ownsRow_move h2 (fun g hgv => hg.block g (h2.lt g hgv).2 (fun e => ?_))
    exact ownBlock_ne (by decide) h2 hu.1 g e.symm hgv.symm
  · obtain ⟨x, lx, hx, hox, hsx⟩ := h3 i hi
    obtain ⟨l3, _, ho3⟩ := ho B x lx hox
    exact ⟨x, l3, hx, ho3, hsx⟩
theorem Loose.setP {w : World} {B S n b off : Nat} {v u : Value} {c : Array Value} {t : TypeId} {fr : Nat × Nat} (h : Loose w B S n v) (hb : w.heap[b]? = some (.cells c t fr)) (ht : t ≠ 30) (ht2 : t ≠ 5) : Loose (w.setCell ⟨b, off, none⟩ u) B S n v := by
  have key : ∀ {e s n : Nat} {x : Value} {xs : List Value}, w.ownsRow B e s x n xs → e = 30 ∨ e = 5 → ∀ g, x.ownBlock = some g → (w.setCell ⟨b, off, none⟩ u).heap[g]? = w.heap[g]? := by
    intro e s n x xs hu he g hg
    rcases hu.2 with ⟨rfl, _⟩ | ⟨g', cap', cur, rfl, _, hg', _⟩
    · simp [Value.ownBlock] at hg
    · simp only [Value.ownBlock, Option.some.injEq] at hg
      subst hg
      refine Below.heap_setCell _ _ _ _ (fun e9 => ?_)
      have e9 : g' = b := e9
      subst e9
      rw [hb] at hg'
      injection hg' with hg'
      injection hg' with _ hg'
      subst hg'
      rcases he with he | he
      · exact ht he
      · exact ht2 he
  obtain ⟨vs, h1, h2, h2b, h3⟩ := h
  refine ⟨vs, h1, ownsRow_move h2 (key h2 (.inl rfl)), h2b, fun i hi => ?_⟩
  obtain ⟨x, l, hu, ho, hs⟩ := h3 i hi
  exact ⟨x, l, hu, ho.move (key ho.1 (.inr rfl)), hs⟩
theorem openG_nm {nm : ByteArray} {g : Sig} {L : LSig} (h : (openG nm g).2.1 = some L) : L.nm = nm := by
  have key : ∀ n sz R g', (openE nm n sz R g').2.1 = some L → L.nm = nm := by
    intro n sz R g' h
    unfold openE at h
    split at h
    · cases h
    · injection h with h
      rw [← h]
  unfold openG at h
  repeat' split at h
  all_goals first
    | cases h
    | exact key _ _ _ _ h
/-- only rows of bytes between the marks change. -/
structure Ov (lo hi : Nat) (w w' : World) : Prop where
  os : w'.os = w.os
  tape : w'.tape = w.tape
  output : w'.output = w.output
  size : w.heap.size ≤ w'.heap.size
  block : ∀ j, j < w.heap.size → ¬ (lo ≤ j ∧ j < hi) → w'.heap[j]? = w.heap[j]?
  cells : ∀ (j : Nat) (c : Array Value) (t : TypeId) (fr : Nat × Nat), w.heap[j]? = some (.cells c t fr) → t ≠ 5 → w'.heap[j]? = w.heap[j]?
  map : ∀ (j : Nat) (es : Array MapEntry) (c : Nat), w.heap[j]? = some (.map es c) → w'.heap[j]? = w.heap[j]?
theorem Ov.refl (lo hi : Nat) (w : World) : Ov lo hi w w := ⟨rfl, rfl, rfl, Nat.le_refl _, fun _ _ _ => rfl, fun _ _ _ _ _ _ => rfl, fun _ _ _ _ => rfl⟩
theorem Ov.over {lo hi : Nat} {w w1 w2 : World} {u : Value} {l : List UInt8} (h : Ov lo hi w w1) (hu : OwnB w1 lo u l) (hb : ∀ g, u.ownBlock = some g → g < hi) (hg : w1.grownBy w2 u.ownBlock) : Ov lo hi w w2 := by
  have hne : ∀ {j : Nat} {o : Obj}, w1.heap[j]? = some o → (∀ c fr, o ≠ .cells c 5 fr) → some j ≠ u.ownBlock := by
    intro j o hj ho e
    rcases hu.1.2 with ⟨rfl, _⟩ | ⟨g', cap', cur, rfl, _, hg', _⟩
    · simp [Value.ownBlock] at e
    · simp only [Value.ownBlock, Option.some.injEq] at e
      subst e
      rw [hg'] at hj
      injection hj with hj
      exact ho _ _ hj.symm
  refine ⟨hg.os.trans h.os, hg.tape.trans h.tape, hg.output.trans h.output, Nat.le_trans h.size hg.size, fun j hj hn => ?_, fun j c t fr hj ht => ?_, fun j es c hj => ?_⟩
  · refine (hg.block j (Nat.lt_of_lt_of_le hj h.size) (fun e => hn ⟨(hu.1.lt j e.symm).1, hb j e.symm⟩)).trans (h.block j hj hn)
  · have h1 := (h.cells j c t fr hj ht)
    refine (hg.block j (Nat.lt_of_lt_of_le (heap_lt hj) h.size) (hne (h1.trans hj) (fun c' fr' e => ?_))).trans h1
    injection e with _ e
    exact ht e
  · have h1 := (h.map j es c hj)
    exact (hg.block j (Nat.lt_of_lt_of_le (heap_lt hj) h.size) (hne (h1.trans hj) (fun c' fr' e => by cases e))).trans h1
theorem Ov.below {lo hi base : Nat} {w w' : World} (h : Ov lo hi w w') (hb : base ≤ lo) (hb2 : base ≤ w.heap.size) : Below base w w' := ⟨h.os, h.tape, h.output, h.size, fun j hj => h.block j (by omega) (by omega)⟩
theorem Ov.ds {lo hi d mb base : Nat} {w w' : World} {g : Sig} (h : Ov lo hi w w') (hd : @DSig (Zi lo hi) w d mb base g) : @DSig Z0 w' d mb base g :=
  DSig.rezone (Z1 := Zi lo hi) (Z2 := Z0) hd h.size h.block h.cells h.map (fun k hk => hk.elim)
theorem pairv_plain {d r : Nat} {a b : Option Addr} : ∀ u ∈ (#[.pointer (some ⟨d, 0, none⟩), .pointer (some ⟨r, 0, none⟩), .pointer a, .pointer b] : Array Value).toList, plainV u = true := by simp [plainV]
section
variable {p d mb r base q k : Nat} {g : Sig} {Lo : Option LSig} {lv mv : Value} {w : World}
end
end Go.Proofs.Ytgbpgmbnihfkkaa

/- layer 28's statements: act, any call; same -/
set_option linter.unusedSimpArgs false
set_option linter.unusedVariables false
namespace Go.Proofs.Ytgbpgmbnihfkkaa
open Go.RowKit
set_option linter.unusedSectionVars false
section
variable {p d mb r base q k : Nat} {g : Sig} {Lo : Option LSig} {lv mv : Value} {w : World} {x : ActL}
end
end Go.Proofs.Ytgbpgmbnihfkkaa

/- layer 28's statements: calls that came in; long -/
set_option linter.unusedSimpArgs false
set_option linter.unusedVariables false
namespace Go.Proofs.Ytgbpgmbnihfkkaa
open Go.RowKit
theorem bytes_of_cells {w : World} {x : Addr} {len cap : Nat} {zs : List Int} (h1 : len ≤ cap) (h2 : cap ≤ maxLen) (h3 : zs.length = cap)
    (h4 : ∀ i, i < zs.length → w.cell? (x.add i) = some (.int .u8 (zs.getD i 0))) (h5 : ∀ n ∈ zs, (Lit.int .u8 n).wf = true) : ∃ l, IsBytes w (some x) len cap l := by
  refine ⟨(zs.take len).map fun n => UInt8.ofNat n.toNat, by simp; omega, h1, h2, fun hne => ?_, fun h => by cases h⟩
  have hpos : 0 < len := by
    rcases Nat.eq_zero_or_pos len with h | h
    · subst h; simp at hne
    · exact h
  obtain ⟨b, off, spot⟩ := x
  have h0 := h4 0 (by omega)
  have hs : spot = none := by
    cases spot with
    | none => rfl
    | some s =>
      simp only [Addr.add, if_true, World.cell?] at h0
      split at h0 <;> simp at h0
  subst hs
  refine ⟨b, off, rfl, fun i hi => ?_⟩
  have hi2 : i < len := by simp at hi; omega
  have hc := h4 i (by omega)
  have e : (⟨b, off, none⟩ : Addr).add i = ⟨b, off + i, none⟩ := by unfold Addr.add; split <;> simp_all
  rw [e] at hc
  rw [hc]
  have hz : zs.getD i 0 ∈ zs := by
    rw [List.getD_eq_getElem?_getD, List.getElem?_eq_getElem (by omega : i < zs.length)]
    exact List.getElem_mem _
  have hw := h5 _ hz
  simp only [Lit.wf, decide_eq_true_eq, Bool.and_eq_true] at hw
  have hg : ((zs.take len).map fun n => UInt8.ofNat n.toNat).getD i 0 = UInt8.ofNat (zs.getD i 0).toNat := by
    simp [List.getD, hi2, List.getElem?_eq_getElem (by omega : i < zs.length)]
  rw [hg]
  have hb : 0 ≤ zs.getD i 0 ∧ zs.getD i 0 ≤ 255 := by
    exact hw
  congr 1
  rw [UInt8.toNat_ofNat']
  congr 1
  omega
theorem wf_i64 {a : Int} (h : (Lit.int .i64 a).wf = true) : -9223372036854775808 ≤ a ∧ a ≤ 9223372036854775807 := by
  simp only [Lit.wf, decide_eq_true_eq, Bool.and_eq_true] at h
  exact h
section
variable {H : Type} {enc : TypeId × Value → H} {w : World} {base : Nat} {held : Bool}
theorem bytes_in {fuel : Nat} {ao : Option Addr} {len cap : Nat} {x : DataW H × List MemPlace} (h : DataW.trod enc Try.prog w base (fun _ => true) held fuel 30 [.slice ao len cap] = some x) : ∃ L, IsBytes w ao len cap L := by
  rcases Go.ChangeShapes.open_ints Try.underlying30 Try.underlying5 (by kernel_rfl) h with ⟨hcs, _⟩ | ⟨a, l, c, zs, hcs, _, hl, hm, hz, _, hcell, hwz⟩
  · simp at hcs
    obtain ⟨rfl, rfl, rfl⟩ := hcs
    exact ⟨[], IsBytes.nil w⟩
  · simp at hcs
    obtain ⟨rfl, rfl, rfl⟩ := hcs
    exact bytes_of_cells hl hm (by simpa using hz) hcell hwz
theorem Try.bytesByte : Try.prog.bytesOf 5 = 1 := by kernel_rfl
theorem bytes_in_sized {fuel : Nat} {ao : Option Addr} {len cap : Nat} {d : DataW H} {pl : List MemPlace} (h : DataW.trod enc Try.prog w base (fun _ => true) held fuel 30 [.slice ao len cap] = some (d, pl))
    (hz : ∀ n ∈ d.weights Try.prog 30, n ≤ reachBytes) : ∃ L, IsBytes w ao len cap L ∧ len ≤ 140737488355328 := by
  obtain ⟨L, hL⟩ := bytes_in h
  refine ⟨L, hL, ?_⟩
  rcases Go.ChangeShapes.open_ints Try.underlying30 Try.underlying5 (by kernel_rfl) h with ⟨hcs, _⟩ | ⟨a, l, c, zs, hcs, _, hl, hm, hzl, hx, hcell, hwz⟩
  · simp at hcs
    omega
  · simp at hcs
    obtain ⟨rfl, rfl, rfl⟩ := hcs
    injection hx with hx _
    subst hx
    have hw := hz zs.length (by
      simp only [DataW.weights, Try.underlying30, Try.bytesByte, Nat.mul_one]
      rw [show ((Go.ChangeShapes.lits (H := H) .u8 (zs.take len)).length + (Go.ChangeShapes.lits (H := H) .u8 (zs.drop len)).length) = zs.length by simp [Go.ChangeShapes.lits]; omega]
      exact List.mem_cons_self)
    have h47 : reachBytes < 2 ^ 47 := reachBytes_lt
    have : zs.length = cap := by simpa using hzl
    omega
end
theorem Try.cellsB : Try.prog.cellsOf 30 = 1 := by kernel_rfl
/-- an address that bears a cell has no spot. -/
theorem spot_of_cell {w : World} {a : Addr} {v : Value} (h : w.cell? (a.add 0) = some v) : a.spot = none := by
  obtain ⟨b, off, spot⟩ := a
  cases spot with
  | none => rfl
  | some s =>
    exfalso
    simp only [Addr.add, World.cell?] at h
    split at h
    · simp at h
    · cases h
theorem add_add (b off i j : Nat) : ((⟨b, off, none⟩ : Addr).add i).add j = ⟨b, off + i + j, none⟩ := by
  have e1 : (⟨b, off, none⟩ : Addr).add i = ⟨b, off + i, none⟩ := by unfold Addr.add; split <;> simp_all
  rw [e1]; unfold Addr.add; split <;> simp_all
theorem Try.cellsInt : Try.prog.cellsOf 3 = 1 := by kernel_rfl
theorem Try.cellsStr : Try.prog.cellsOf 9 = 1 := by kernel_rfl
/-- what a call holds. -/
structure ActOk (w : World) (x : ActL) : Prop where
  kind : I64 x.kind
  size : I64 x.size
  keep : I64 x.keep
  nm : x.nm.size ≤ maxLen
  B : IsBytes w x.ba x.bn x.bc x.B
theorem ActOk.later {w w' : World} {x : ActL} (h : ActOk w x) (hb : Below w.heap.size w w') : ActOk w' x := ⟨h.kind, h.size, h.keep, h.nm, h.B.later hb⟩
def act0 : ActL := ⟨0, 0, 0, ByteArray.empty, none, 0, 0, []⟩
/-- a slice of calls. -/
def IsActs (w : World) (ao : Option Addr) (n cap : Nat) (X : List ActL) : Prop :=
  X.length = n ∧ n ≤ cap ∧ cap ≤ maxLen ∧ (0 < n → ∃ b off, ao = some ⟨b, off, none⟩ ∧ ∀ i, i < n → (∀ j, j < 5 → w.cell? ⟨b, off + i * 5 + j, none⟩ = (X.getD i act0).row[j]?) ∧ ActOk w (X.getD i act0))
/-- calls that came in: each list of bytes within the form's reach. -/
def IsActsZ (w : World) (ao : Option Addr) (n cap : Nat) (X : List ActL) : Prop := IsActs w ao n cap X ∧ ∀ i, i < n → (X.getD i act0).bn ≤ 140737488355328
theorem IsActs.later {w w' : World} {ao : Option Addr} {n cap : Nat} {X : List ActL} (h : IsActs w ao n cap X) (hb : Below w.heap.size w w') : IsActs w' ao n cap X := by
  obtain ⟨h1, h2, h3, h4⟩ := h
  refine ⟨h1, h2, h3, fun hn => ?_⟩
  obtain ⟨b, off, e, hc⟩ := h4 hn
  refine ⟨b, off, e, fun i hi => ?_⟩
  obtain ⟨q1, q2⟩ := hc i hi
  refine ⟨fun j hj => ?_, q2.later hb⟩
  have h0 := q1 j hj
  have hs : (X.getD i act0).row[j]? = some ((X.getD i act0).row[j]'(by show j < 5; exact hj)) := Array.getElem?_eq_getElem _
  rw [hs] at h0 ⊢
  exact (hb.cell (block_lt_of_cell h0)).trans h0
section
variable {H : Type} {enc : TypeId × Value → H} {w : World} {base : Nat} {held : Bool}
/-- a row's elements, one by one: a slice whose elements are of k cells. -/
theorem rows_of {k len m : Nat} {a : Addr} {α : Type} (d : α) (Q : List Value → α → Prop) (hk : 0 < k) (hl : len ≤ m) (h : ∀ i, i < m → ∃ cs', w.cells? base (a.add (i * k)) k = some cs' ∧ ∃ x, Q cs' x) :
    ∃ X : List α, X.length = len ∧ (0 < len → ∃ b off, a = ⟨b, off, none⟩ ∧ ∀ i, i < len → ∃ cs : List Value, cs.length = k ∧ (∀ j, j < k → w.cell? ⟨b, off + i * k + j, none⟩ = cs[j]?) ∧ Q cs (X.getD i d)) := by
  have each : ∀ i, ∃ x : α, i < len → ∃ cs, w.cells? base (a.add (i * k)) k = some cs ∧ Q cs x := by
    intro i
    by_cases hi : i < len
    · obtain ⟨cs, h1, x, h2⟩ := h i (by omega)
      exact ⟨x, fun _ => ⟨cs, h1, h2⟩⟩
    · exact ⟨d, fun h => absurd h hi⟩
  obtain ⟨R, hR⟩ := Classical.axiomOfChoice each
  refine ⟨(List.range len).map R, by simp, fun hpos => ?_⟩
  obtain ⟨b, off, spot⟩ := a
  have hs : spot = none := by
    obtain ⟨cs, h1, _⟩ := hR 0 hpos
    obtain ⟨_, hl0, hc⟩ := World.cells?_some h1
    have h0 := hc 0 hk
    rw [List.getElem?_eq_getElem (by omega)] at h0
    rw [Nat.zero_mul] at h0
    have hz : (⟨b, off, spot⟩ : Addr).add 0 = ⟨b, off, spot⟩ := rfl
    rw [hz] at h0
    exact spot_of_cell h0
  subst hs
  refine ⟨b, off, rfl, fun i hi => ?_⟩
  obtain ⟨cs, h1, h2⟩ := hR i hi
  obtain ⟨_, hl0, hc⟩ := World.cells?_some h1
  refine ⟨cs, hl0, fun j hj => by rw [← hc j hj, add_add], ?_⟩
  have : ((List.range len).map R).getD i d = R i := by simp [List.getD, hi]
  rw [this]
  exact h2
end
/-- how many bytes the first calls have. -/
def sumA (X : List ActL) (k : Nat) : Nat := ((X.take k).map (·.bn)).sum
theorem sumA_succ {X : List ActL} {k : Nat} (h : k < X.length) : sumA X (k + 1) = sumA X k + (X.getD k act0).bn := by
  unfold sumA
  rw [List.take_succ_eq_append_getElem h, List.map_append, List.sum_append, List.getD_eq_getElem?_getD, List.getElem?_eq_getElem h]
  simp
/-- a call's names and numbers are not too long. -/
def ActL.fits (x : ActL) : Prop := x.nm.size ≤ 100
/-- what 'long' tells: 'no' says that nothing is too long. -/
def LongR (X : List ActL) (n : Nat) (w : World) (e : Ending) (w' : World) : Prop := ∃ r, e = .returned (.bool r) ∧ (r = false → n ≤ 60 ∧ sumA X n ≤ 3000 ∧ ∀ i, i < n → (X.getD i act0).fits) ∧ w = w'
theorem LongR.yes {X : List ActL} {n : Nat} {w : World} : LongR X n w (.returned (.bool true)) w := ⟨true, rfl, (fun h => by cases h), rfl⟩
theorem LongR.no {X : List ActL} {n : Nat} {w : World} (h : n ≤ 60 ∧ sumA X n ≤ 3000 ∧ ∀ i, i < n → (X.getD i act0).fits) : LongR X n w (.returned (.bool false)) w := ⟨false, rfl, (fun _ => h), rfl⟩
end Go.Proofs.Ytgbpgmbnihfkkaa
